/- The tests of kinds, both packages walked. -/
import Derived.Test.YtijkdpdmclkmlaaGreatDoorProg
import Derived.Test.YtijkdpdmclkmlaaGreatDoorJ0
import Derived.Test.YtijkdpdmclkmlaaGreatDoorJ27
import Derived.Test.YtijkdpdmclkmlaaGreatDoorJ26
import Derived.Test.YtijkdpdmclkmlaaGreatDoorJ25
import Derived.Test.YtijkdpdmclkmlaaGreatDoorJ28
import Derived.BigQuiet
import Derived.Test.YtijkdpdmclkmlaaGreatDoorJ15
import Derived.Test.YtijkdpdmclkmlaaGreatDoorJ7
set_option linter.unusedSimpArgs false
set_option linter.unusedVariables false
set_option maxRecDepth 100000
set_option maxHeartbeats 16000000
namespace Go.Proofs.YtijkdpdmclkmlaaGreatDoor
open Go.RowKit
theorem isPermutation_any (g : Gr) (nv sv ov iv : Value) (w : World) (hs : SmallG g) (hG : RGr w nv sv ov iv g) (he : 0 ≤ g.edges) (hsb : ∀ p ∈ g.sites, p ≤ 1000) :
  Calls Tryz.prog 107 #[.agg #[.int .i64 g.roots, nv, sv, .int .i64 g.edges, ov, iv]] w fun e w' => e = .returned (.bool (permB g)) ∧ Below w.heap.size w w' := by
 have HG := Lib.hid (show ∀ W, Below w.heap.size w W → RGr W nv sv ov iv g from fun W hb => hG.below hb)
 have HSM := Lib.hid hs
 obtain ⟨AN, cN, AS, cS, AO, cO, AI, cI, rfl, rfl, rfl, rfl⟩ := hG.form
 obtain ⟨w0, hw0, hb0, hsz0, bx0⟩ := laid1 w (.cells #[.int .i64 g.roots, .slice AN g.nodes.length cN, .slice AS g.sites.length cS, .int .i64 g.edges, .slice AO g.outer.length cO, .slice AI g.inner.length cI] 31)
 have HX := Lib.hid (keepB bx0)
 have HB0 := Lib.hid hb0
 have HW0 := Lib.hid hw0
 have HED := Lib.hid he
 have HSB := Lib.hid hsb
 have HUL := Lib.hid (show (undG g).length ≤ 1000000 from by rw [und_len]; exact Nat.le_trans hs.sites (by decide))
 have HPT := Lib.hid (permB_eq g)
 obtain ⟨x0, x1, x2, x3, x4, x5⟩ := row6 bx0
 rw [hw0] at x0 x1 x2 x3 x4 x5
 clear hs hG hb0 bx0 hw0 he hsb x0 x1 x2 x3 x4 x5
 cases hpl : placB g
 ·have HPL := Lib.hid hpl
  have HPB := Lib.hid (show permB g = false from by rw [HPT.out, hpl]; rfl)
  clear hpl
  go_enter Tryz.func107, Tryz.ntmps107
  go_wp2_with fail
  rw [← HW0.out]
  refine wp_region_vals (by kernel_rfl) [some 3, some 4, some 5, some 6, some 7, some 8, some 9, some 10, some 11, some 2] (fun q v W => match q with | 0 => v = .agg #[.int .i64 g.roots, .slice AN g.nodes.length cN, .slice AS g.sites.length cS, .int .i64 g.edges, .slice AO g.outer.length cO, .slice AI g.inner.length cI] | 1 => v = .bool false | 2 => v = .bool false | 3 => v = undef | 4 => v = undef | 5 => v = undef | 6 => v = undef | 7 => v = undef | 8 => v = .bool (permB g) | 9 => v = .bool (permB g) | _ => True) (by kernel_rfl) (by kernel_rfl) ?m1o ?s1t ?f1i
  case m1o =>
   intro q v W W' hb h
   match q, h with
   | 0, h | 1, h | 2, h | 3, h | 4, h | 5, h | 6, h | 7, h | 8, h | 9, h => exact h
   | q + 10, _ => trivial
  case s1t =>
   intro L act W q oo hJ ho hd K3 hK3
   match q, ho with
   | 0, ho =>
    cases ho
    have hbW := hJ.bel
    have a1 : act.tmps[1]? = some _ := hJ.out 1 (by decide)
    clear hJ hd
    have bxW := HX.out W hbW
    obtain ⟨x0, x1, x2, x3, x4, x5⟩ := row6 bxW
    clear bxW
    go_simp
    exact hK3 _ _ (Below.refl _ _) rfl
   | 1, ho =>
    cases ho
    simp [Region.binds] at hd
    have hbW := hJ.bel
    have v0 := hJ.val (by simp [hd] : L 0 = true) rfl fun _ h => h
    clear hJ hd
    have HBW := Lib.hid hbW
    clear hbW
    go_simp
    go_at_call 108
    refine (isPlacing_any g _ _ _ _ W HSM.out (HG.out W (HB0.out.trans (HBW.out.mono HB0.out.size))) HED.out).mono ?_
    rintro e W' ⟨rfl, hb⟩
    go_simp
    exact hK3 _ _ hb (by rw [HPL.out]; first | done | rfl)
   | 2, ho =>
    cases ho
    simp [Region.binds] at hd
    have hbW := hJ.bel
    have v1 := hJ.val (by simp [hd] : L 1 = true) rfl fun _ h => h
    clear hJ hd
    go_simp
    exact hK3 _ _ (Below.refl _ _) rfl
   | 3, ho | 4, ho | 5, ho | 6, ho | 7, ho =>
    cases ho
    simp [Region.binds] at hd
    have hbW := hJ.bel
    have v2 := hJ.val (by simp [hd] : L 2 = true) rfl fun _ h => h
    clear hJ hd
    go_simp
    exact hK3 _ _ (Below.refl _ _) rfl
   | 8, ho =>
    cases ho
    simp [Region.binds] at hd
    have hbW := hJ.bel
    have v2 := hJ.val (by simp [hd] : L 2 = true) rfl fun _ h => h
    have v7 := hJ.val (by simp [hd] : L 7 = true) rfl fun _ h => h
    clear hJ hd
    go_simp
    exact hK3 _ _ (Below.refl _ _) (by rw [HPB.out]; rfl)
   | 9, ho =>
    cases ho
    simp [Region.binds] at hd
    have hbW := hJ.bel
    have v8 := hJ.val (by simp [hd] : L 8 = true) rfl fun _ h => h
    clear hJ hd
    go_simp
    exact hK3 _ _ (Below.refl _ _) rfl
   | q + 10, ho => simp at ho
  intro V W hbW hV
  have v0 : V 0 = _ := hV 0 3 rfl
  have v1 : V 1 = _ := hV 1 4 rfl
  have v2 : V 2 = _ := hV 2 5 rfl
  have v3 : V 3 = _ := hV 3 6 rfl
  have v4 : V 4 = _ := hV 4 7 rfl
  have v5 : V 5 = _ := hV 5 8 rfl
  have v6 : V 6 = _ := hV 6 9 rfl
  have v7 : V 7 = _ := hV 7 10 rfl
  have v8 : V 8 = _ := hV 8 11 rfl
  have v9 : V 9 = _ := hV 9 2 rfl
  clear hV
  simp only [layV, List.setIfInBounds_toArray, List.set_cons_zero, List.set_cons_succ, v0, v1, v2, v3, v4, v5, v6, v7, v8, v9]
  clear v0 v1 v2 v3 v4 v5 v6 v7 v8 v9
  have HZ := Lib.hid (HB0.out.trans (hbW.mono HB0.out.size))
  clear hbW
  go_wp2_with fail
  go_ret
  exact ⟨rfl, HZ.out⟩
 have HPL := Lib.hid hpl
 have HPB := Lib.hid (show permB g = orderB g.roots (undG g) from by rw [HPT.out, hpl]; rfl)
 clear hpl
 go_enter Tryz.func107, Tryz.ntmps107
 go_wp2_with fail
 rw [← HW0.out]
 refine wp_region_vals (by kernel_rfl) [some 3, some 4, some 5, some 6, some 7, some 8, some 9, some 10, some 11, some 2] (fun q v W => match q with | 0 => v = .agg #[.int .i64 g.roots, .slice AN g.nodes.length cN, .slice AS g.sites.length cS, .int .i64 g.edges, .slice AO g.outer.length cO, .slice AI g.inner.length cI] | 1 => v = .bool true | 2 => v = .bool true | 3 => v = .pointer (some ⟨w.heap.size, 0, none⟩) | 4 => v = .int .i64 g.roots | 5 => v = .agg #[.int .i64 g.roots, .slice AN g.nodes.length cN, .slice AS g.sites.length cS, .int .i64 g.edges, .slice AO g.outer.length cO, .slice AI g.inner.length cI] | 6 => ∃ A1 c1, v = .slice A1 (undG g).length c1 ∧ Cells W A1 (ints (undG g)) | 7 => v = .bool (orderB g.roots (undG g)) | 8 => v = .bool (permB g) | 9 => v = .bool (permB g) | _ => True) (by kernel_rfl) (by kernel_rfl) ?m2o ?s2t ?f2i
 case m2o =>
  intro q v W W' hb h
  match q, h with
  | 0, h | 1, h | 2, h | 3, h | 4, h | 5, h | 7, h | 8, h | 9, h => exact h
  | 6, h => exact (by obtain ⟨A1, c1, e, hc⟩ := h; exact ⟨A1, c1, e, hc.below hb⟩)
  | q + 10, _ => trivial
 case s2t =>
  intro L act W q oo hJ ho hd K3 hK3
  match q, ho with
  | 0, ho =>
   cases ho
   have hbW := hJ.bel
   have a1 : act.tmps[1]? = some _ := hJ.out 1 (by decide)
   clear hJ hd
   have bxW := HX.out W hbW
   obtain ⟨x0, x1, x2, x3, x4, x5⟩ := row6 bxW
   clear bxW
   go_simp
   exact hK3 _ _ (Below.refl _ _) rfl
  | 1, ho =>
   cases ho
   simp [Region.binds] at hd
   have hbW := hJ.bel
   have v0 := hJ.val (by simp [hd] : L 0 = true) rfl fun _ h => h
   clear hJ hd
   have HBW := Lib.hid hbW
   clear hbW
   go_simp
   go_at_call 108
   refine (isPlacing_any g _ _ _ _ W HSM.out (HG.out W (HB0.out.trans (HBW.out.mono HB0.out.size))) HED.out).mono ?_
   rintro e W' ⟨rfl, hb⟩
   go_simp
   exact hK3 _ _ hb (by rw [HPL.out]; first | done | rfl)
  | 2, ho =>
   cases ho
   simp [Region.binds] at hd
   have hbW := hJ.bel
   have v1 := hJ.val (by simp [hd] : L 1 = true) rfl fun _ h => h
   clear hJ hd
   go_simp
   exact hK3 _ _ (Below.refl _ _) rfl
  | 3, ho =>
   cases ho
   simp [Region.binds] at hd
   have hbW := hJ.bel
   have a1 : act.tmps[1]? = some _ := hJ.out 1 (by decide)
   have v2 := hJ.val (by simp [hd] : L 2 = true) rfl fun _ h => h
   clear hJ hd
   go_simp
   exact hK3 _ _ (Below.refl _ _) rfl
  | 4, ho =>
   cases ho
   simp [Region.binds] at hd
   have hbW := hJ.bel
   have v2 := hJ.val (by simp [hd] : L 2 = true) rfl fun _ h => h
   have v3 := hJ.val (by simp [hd] : L 3 = true) rfl fun _ h => h
   clear hJ hd
   have bxW := HX.out W hbW
   obtain ⟨x0, x1, x2, x3, x4, x5⟩ := row6 bxW
   clear bxW
   go_simp
   exact hK3 _ _ (Below.refl _ _) rfl
  | 5, ho =>
   cases ho
   simp [Region.binds] at hd
   have hbW := hJ.bel
   have a1 : act.tmps[1]? = some _ := hJ.out 1 (by decide)
   have v2 := hJ.val (by simp [hd] : L 2 = true) rfl fun _ h => h
   clear hJ hd
   have bxW := HX.out W hbW
   obtain ⟨x0, x1, x2, x3, x4, x5⟩ := row6 bxW
   clear bxW
   go_simp
   exact hK3 _ _ (Below.refl _ _) rfl
  | 6, ho =>
   cases ho
   simp [Region.binds] at hd
   have hbW := hJ.bel
   have v2 := hJ.val (by simp [hd] : L 2 = true) rfl fun _ h => h
   have v5 := hJ.val (by simp [hd] : L 5 = true) rfl fun _ h => h
   clear hJ hd
   have HBW := Lib.hid hbW
   clear hbW
   go_simp
   go_at_call 158
   refine (under_any g _ _ _ _ W HSM.out (HG.out W (HB0.out.trans (HBW.out.mono HB0.out.size))) HSB.out).mono ?_
   rintro e W' ⟨r, rfl, ho, hb⟩
   go_simp
   exact hK3 _ _ hb (by obtain ⟨A1, c1, rfl, ho⟩ := owns_form ho; exact ⟨A1, c1, rfl, Cells.of_owns ho⟩)
  | 7, ho =>
   cases ho
   simp [Region.binds] at hd
   have hbW := hJ.bel
   have v2 := hJ.val (by simp [hd] : L 2 = true) rfl fun _ h => h
   have v4 := hJ.val (by simp [hd] : L 4 = true) rfl fun _ h => h
   have l6 : L 6 = true := by simp [hd]
   obtain ⟨u6, v6, A1, c1, rfl, hr6⟩ := hJ.has 6 9 l6 rfl
   clear hJ hd
   have HBW := Lib.hid hbW
   clear hbW
   go_simp
   go_at_call 99
   refine (isOrder_any g.roots _ _ (undG g) W HUL.out hr6).mono ?_
   rintro e W' ⟨rfl, hb⟩
   go_simp
   exact hK3 _ _ hb rfl
  | 8, ho =>
   cases ho
   simp [Region.binds] at hd
   have hbW := hJ.bel
   have v2 := hJ.val (by simp [hd] : L 2 = true) rfl fun _ h => h
   have v7 := hJ.val (by simp [hd] : L 7 = true) rfl fun _ h => h
   clear hJ hd
   go_simp
   exact hK3 _ _ (Below.refl _ _) (by rw [HPB.out]; rfl)
  | 9, ho =>
   cases ho
   simp [Region.binds] at hd
   have hbW := hJ.bel
   have v8 := hJ.val (by simp [hd] : L 8 = true) rfl fun _ h => h
   clear hJ hd
   go_simp
   exact hK3 _ _ (Below.refl _ _) rfl
  | q + 10, ho => simp at ho
 intro V W hbW hV
 have v0 : V 0 = _ := hV 0 3 rfl
 have v1 : V 1 = _ := hV 1 4 rfl
 have v2 : V 2 = _ := hV 2 5 rfl
 have v3 : V 3 = _ := hV 3 6 rfl
 have v4 : V 4 = _ := hV 4 7 rfl
 have v5 : V 5 = _ := hV 5 8 rfl
 obtain ⟨A16, c16, v6, hr6⟩ : ∃ A1 c1, V 6 = .slice A1 (undG g).length c1 ∧ Cells W A1 (ints (undG g)) := hV 6 9 rfl
 have v7 : V 7 = _ := hV 7 10 rfl
 have v8 : V 8 = _ := hV 8 11 rfl
 have v9 : V 9 = _ := hV 9 2 rfl
 clear hV
 simp only [layV, List.setIfInBounds_toArray, List.set_cons_zero, List.set_cons_succ, v0, v1, v2, v3, v4, v5, v6, v7, v8, v9]
 clear v0 v1 v2 v3 v4 v5 v6 v7 v8 v9
 have HZ := Lib.hid (HB0.out.trans (hbW.mono HB0.out.size))
 clear hbW
 go_wp2_with fail
 go_ret
 exact ⟨rfl, HZ.out⟩

theorem implIsPlacing_any (sig : List Ct) (g : Gr) (nv sv ov iv gv : Value) (w : World) (hs : SmallG g) (hz : SmallS sig) (hcap : CapOk gv) (hS : RSl RCt 3 w gv sig) (hG : RGr w nv sv ov iv g) :
  Calls Tryz.prog 29 #[gv, .agg #[.int .i64 g.roots, nv, sv, .int .i64 g.edges, ov, iv]] w fun e w' => e = .returned (.bool (placR sig g)) ∧ Below w.heap.size w w' := by
 have HG := Lib.hid (show ∀ W, Below w.heap.size w W → RGr W nv sv ov iv g from fun W hb => hG.below hb)
 have HS := Lib.hid (show ∀ W, Below w.heap.size w W → RSl RCt 3 W gv sig from fun W hb => hS.below RCt_keep hb)
 have HSM := Lib.hid hs
 obtain ⟨AN, cN, AS, cS, AO, cO, AI, cI, rfl, rfl, rfl, rfl⟩ := hG.form
 obtain ⟨AG, cG, rfl, _⟩ := hS.form
 obtain ⟨w0, hw0, hb0, hsz0, bx0⟩ := laid1 w (.cells #[.int .i64 g.roots, .slice AN g.nodes.length cN, .slice AS g.sites.length cS, .int .i64 g.edges, .slice AO g.outer.length cO, .slice AI g.inner.length cI] 31)
 have HX := Lib.hid (keepB bx0)
 have HB0 := Lib.hid hb0
 have HW0 := Lib.hid hw0
 have H1 := Lib.hid (isBigraph_any sig g _ _ _ _ _ w0 hs hz hcap (HS.out w0 hb0) (HG.out w0 hb0))
 obtain ⟨x0, x1, x2, x3, x4, x5⟩ := row6 bx0
 rw [hw0] at x0 x1 x2 x3 x4 x5
 clear hs hG hb0 bx0 hw0 hS hz hcap
 cases c0 : (goodG sig g)
 ·have HE := Lib.hid (show placR sig g = false from by rw [placR_eq, c0]; first | done | rfl)
  rw [c0] at H1
  go_enter Tryz.func29, Tryz.ntmps29
  go_wp2_with fail
  rw [← HW0.out]
  (with_reducible refine H1.out.mono ?_)
  rintro e w1 ⟨rfl, hb⟩
  have HW1 := Lib.hid hb
  have HZ1 := Lib.hid (HB0.out.trans (hb.mono HB0.out.size))
  clear hb x0 x1 x2 x3 x4 x5
  go_wp2_with fail
  go_ret
  exact ⟨by first | rfl | (rw [HE.out]; done) | (rw [HE.out]; rfl), HZ1.out⟩
 have HGP := Lib.hid ((good_iff sig g).1 c0)
 cases c1 : (placB g)
 ·have HE := Lib.hid (show placR sig g = false from by rw [placR_eq, c0, c1]; first | done | rfl)
  rw [c0] at H1
  go_enter Tryz.func29, Tryz.ntmps29
  go_wp2_with fail
  rw [← HW0.out]
  (with_reducible refine H1.out.mono ?_)
  rintro e w1 ⟨rfl, hb⟩
  have HW1 := Lib.hid hb
  have HZ1 := Lib.hid (HB0.out.trans (hb.mono HB0.out.size))
  clear hb x0 x1 x2 x3 x4 x5
  have bxr := HX.out w1 HW1.out
  obtain ⟨x0, x1, x2, x3, x4, x5⟩ := row6 bxr
  clear bxr
  have HC1 := Lib.hid (isPlacing_any g _ _ _ _ w1 HSM.out (HG.out w1 HZ1.out) HGP.out.e.1)
  rw [c1] at HC1
  go_wp2_with fail
  (with_reducible refine HC1.out.mono ?_)
  rintro e w2 ⟨rfl, hb⟩
  have HW2 := Lib.hid (HW1.out.trans (hb.mono HW1.out.size))
  have HZ2 := Lib.hid (HZ1.out.trans (hb.mono HZ1.out.size))
  clear hb x0 x1 x2 x3 x4 x5
  go_wp2_with fail
  go_ret
  exact ⟨by first | rfl | (rw [HE.out]; done) | (rw [HE.out]; rfl), HZ2.out⟩
 have HE := Lib.hid (show placR sig g = true from by rw [placR_eq, c0, c1]; first | done | rfl)
 rw [c0] at H1
 go_enter Tryz.func29, Tryz.ntmps29
 go_wp2_with fail
 rw [← HW0.out]
 (with_reducible refine H1.out.mono ?_)
 rintro e w1 ⟨rfl, hb⟩
 have HW1 := Lib.hid hb
 have HZ1 := Lib.hid (HB0.out.trans (hb.mono HB0.out.size))
 clear hb x0 x1 x2 x3 x4 x5
 have bxr := HX.out w1 HW1.out
 obtain ⟨x0, x1, x2, x3, x4, x5⟩ := row6 bxr
 clear bxr
 have HC1 := Lib.hid (isPlacing_any g _ _ _ _ w1 HSM.out (HG.out w1 HZ1.out) HGP.out.e.1)
 rw [c1] at HC1
 go_wp2_with fail
 (with_reducible refine HC1.out.mono ?_)
 rintro e w2 ⟨rfl, hb⟩
 have HW2 := Lib.hid (HW1.out.trans (hb.mono HW1.out.size))
 have HZ2 := Lib.hid (HZ1.out.trans (hb.mono HZ1.out.size))
 clear hb x0 x1 x2 x3 x4 x5
 go_wp2_with fail
 go_ret
 exact ⟨by first | rfl | (rw [HE.out]; done) | (rw [HE.out]; rfl), HZ2.out⟩

theorem implIsPermutation_any (sig : List Ct) (g : Gr) (nv sv ov iv gv : Value) (w : World) (hs : SmallG g) (hz : SmallS sig) (hcap : CapOk gv) (hS : RSl RCt 3 w gv sig) (hG : RGr w nv sv ov iv g) :
  Calls Tryz.prog 28 #[gv, .agg #[.int .i64 g.roots, nv, sv, .int .i64 g.edges, ov, iv]] w fun e w' => e = .returned (.bool (permR sig g)) ∧ Below w.heap.size w w' := by
 have HG := Lib.hid (show ∀ W, Below w.heap.size w W → RGr W nv sv ov iv g from fun W hb => hG.below hb)
 have HS := Lib.hid (show ∀ W, Below w.heap.size w W → RSl RCt 3 W gv sig from fun W hb => hS.below RCt_keep hb)
 have HSM := Lib.hid hs
 obtain ⟨AN, cN, AS, cS, AO, cO, AI, cI, rfl, rfl, rfl, rfl⟩ := hG.form
 obtain ⟨AG, cG, rfl, _⟩ := hS.form
 obtain ⟨w0, hw0, hb0, hsz0, bx0⟩ := laid1 w (.cells #[.int .i64 g.roots, .slice AN g.nodes.length cN, .slice AS g.sites.length cS, .int .i64 g.edges, .slice AO g.outer.length cO, .slice AI g.inner.length cI] 31)
 have HX := Lib.hid (keepB bx0)
 have HB0 := Lib.hid hb0
 have HW0 := Lib.hid hw0
 have H1 := Lib.hid (isBigraph_any sig g _ _ _ _ _ w0 hs hz hcap (HS.out w0 hb0) (HG.out w0 hb0))
 obtain ⟨x0, x1, x2, x3, x4, x5⟩ := row6 bx0
 rw [hw0] at x0 x1 x2 x3 x4 x5
 clear hs hG hb0 bx0 hw0 hS hz hcap
 cases c0 : (goodG sig g)
 ·have HE := Lib.hid (show permR sig g = false from by rw [permR_eq, c0]; first | done | rfl)
  rw [c0] at H1
  go_enter Tryz.func28, Tryz.ntmps28
  go_wp2_with fail
  rw [← HW0.out]
  (with_reducible refine H1.out.mono ?_)
  rintro e w1 ⟨rfl, hb⟩
  have HW1 := Lib.hid hb
  have HZ1 := Lib.hid (HB0.out.trans (hb.mono HB0.out.size))
  clear hb x0 x1 x2 x3 x4 x5
  go_wp2_with fail
  go_ret
  exact ⟨by first | rfl | (rw [HE.out]; done) | (rw [HE.out]; rfl), HZ1.out⟩
 have HGP := Lib.hid ((good_iff sig g).1 c0)
 cases c1 : (permB g)
 ·have HE := Lib.hid (show permR sig g = false from by rw [permR_eq, c0, c1]; first | done | rfl)
  rw [c0] at H1
  go_enter Tryz.func28, Tryz.ntmps28
  go_wp2_with fail
  rw [← HW0.out]
  (with_reducible refine H1.out.mono ?_)
  rintro e w1 ⟨rfl, hb⟩
  have HW1 := Lib.hid hb
  have HZ1 := Lib.hid (HB0.out.trans (hb.mono HB0.out.size))
  clear hb x0 x1 x2 x3 x4 x5
  have bxr := HX.out w1 HW1.out
  obtain ⟨x0, x1, x2, x3, x4, x5⟩ := row6 bxr
  clear bxr
  have HC1 := Lib.hid (isPermutation_any g _ _ _ _ w1 HSM.out (HG.out w1 HZ1.out) HGP.out.e.1 (sits_bound HGP.out))
  rw [c1] at HC1
  go_wp2_with fail
  (with_reducible refine HC1.out.mono ?_)
  rintro e w2 ⟨rfl, hb⟩
  have HW2 := Lib.hid (HW1.out.trans (hb.mono HW1.out.size))
  have HZ2 := Lib.hid (HZ1.out.trans (hb.mono HZ1.out.size))
  clear hb x0 x1 x2 x3 x4 x5
  go_wp2_with fail
  go_ret
  exact ⟨by first | rfl | (rw [HE.out]; done) | (rw [HE.out]; rfl), HZ2.out⟩
 have HE := Lib.hid (show permR sig g = true from by rw [permR_eq, c0, c1]; first | done | rfl)
 rw [c0] at H1
 go_enter Tryz.func28, Tryz.ntmps28
 go_wp2_with fail
 rw [← HW0.out]
 (with_reducible refine H1.out.mono ?_)
 rintro e w1 ⟨rfl, hb⟩
 have HW1 := Lib.hid hb
 have HZ1 := Lib.hid (HB0.out.trans (hb.mono HB0.out.size))
 clear hb x0 x1 x2 x3 x4 x5
 have bxr := HX.out w1 HW1.out
 obtain ⟨x0, x1, x2, x3, x4, x5⟩ := row6 bxr
 clear bxr
 have HC1 := Lib.hid (isPermutation_any g _ _ _ _ w1 HSM.out (HG.out w1 HZ1.out) HGP.out.e.1 (sits_bound HGP.out))
 rw [c1] at HC1
 go_wp2_with fail
 (with_reducible refine HC1.out.mono ?_)
 rintro e w2 ⟨rfl, hb⟩
 have HW2 := Lib.hid (HW1.out.trans (hb.mono HW1.out.size))
 have HZ2 := Lib.hid (HZ1.out.trans (hb.mono HZ1.out.size))
 clear hb x0 x1 x2 x3 x4 x5
 go_wp2_with fail
 go_ret
 exact ⟨by first | rfl | (rw [HE.out]; done) | (rw [HE.out]; rfl), HZ2.out⟩

theorem implIsPrime_any (sig : List Ct) (g : Gr) (nv sv ov iv gv : Value) (w : World) (hs : SmallG g) (hz : SmallS sig) (hcap : CapOk gv) (hS : RSl RCt 3 w gv sig) (hG : RGr w nv sv ov iv g) :
  Calls Tryz.prog 30 #[gv, .agg #[.int .i64 g.roots, nv, sv, .int .i64 g.edges, ov, iv]] w fun e w' => e = .returned (.bool (primR sig g)) ∧ Below w.heap.size w w' := by
 have HG := Lib.hid (show ∀ W, Below w.heap.size w W → RGr W nv sv ov iv g from fun W hb => hG.below hb)
 have HS := Lib.hid (show ∀ W, Below w.heap.size w W → RSl RCt 3 W gv sig from fun W hb => hS.below RCt_keep hb)
 have HSM := Lib.hid hs
 obtain ⟨AN, cN, AS, cS, AO, cO, AI, cI, rfl, rfl, rfl, rfl⟩ := hG.form
 obtain ⟨AG, cG, rfl, _⟩ := hS.form
 obtain ⟨w0, hw0, hb0, hsz0, bx0⟩ := laid1 w (.cells #[.int .i64 g.roots, .slice AN g.nodes.length cN, .slice AS g.sites.length cS, .int .i64 g.edges, .slice AO g.outer.length cO, .slice AI g.inner.length cI] 31)
 have HX := Lib.hid (keepB bx0)
 have HB0 := Lib.hid hb0
 have HW0 := Lib.hid hw0
 have H1 := Lib.hid (isBigraph_any sig g _ _ _ _ _ w0 hs hz hcap (HS.out w0 hb0) (HG.out w0 hb0))
 obtain ⟨x0, x1, x2, x3, x4, x5⟩ := row6 bx0
 rw [hw0] at x0 x1 x2 x3 x4 x5
 clear hs hG hb0 bx0 hw0 hS hz hcap
 cases c0 : (goodG sig g)
 ·have HE := Lib.hid (show primR sig g = false from by rw [primR_eq, c0]; first | done | rfl)
  rw [c0] at H1
  go_enter Tryz.func30, Tryz.ntmps30
  go_wp2_with fail
  rw [← HW0.out]
  (with_reducible refine H1.out.mono ?_)
  rintro e w1 ⟨rfl, hb⟩
  have HW1 := Lib.hid hb
  have HZ1 := Lib.hid (HB0.out.trans (hb.mono HB0.out.size))
  clear hb x0 x1 x2 x3 x4 x5
  go_wp2_with fail
  go_ret
  exact ⟨by first | rfl | (rw [HE.out]; done) | (rw [HE.out]; rfl), HZ1.out⟩
 have HGP := Lib.hid ((good_iff sig g).1 c0)
 cases c1 : (g.roots == 1)
 ·have HE := Lib.hid (show primR sig g = false from by rw [primR_eq, c0, c1]; first | done | rfl)
  rw [c0] at H1
  go_enter Tryz.func30, Tryz.ntmps30
  go_wp2_with fail
  rw [← HW0.out]
  (with_reducible refine H1.out.mono ?_)
  rintro e w1 ⟨rfl, hb⟩
  have HW1 := Lib.hid hb
  have HZ1 := Lib.hid (HB0.out.trans (hb.mono HB0.out.size))
  clear hb x0 x1 x2 x3 x4 x5
  have bxr := HX.out w1 HW1.out
  obtain ⟨x0, x1, x2, x3, x4, x5⟩ := row6 bxr
  clear bxr
  go_wp2_with fail
  go_ret
  exact ⟨by first | rfl | (rw [HE.out]; done) | (rw [HE.out]; rfl), HZ1.out⟩
 cases c2 : ((g.inner.length : Int) == 0)
 ·have HE := Lib.hid (show primR sig g = false from by rw [primR_eq, c0, c1, c2]; first | done | rfl)
  rw [c0] at H1
  go_enter Tryz.func30, Tryz.ntmps30
  go_wp2_with fail
  rw [← HW0.out]
  (with_reducible refine H1.out.mono ?_)
  rintro e w1 ⟨rfl, hb⟩
  have HW1 := Lib.hid hb
  have HZ1 := Lib.hid (HB0.out.trans (hb.mono HB0.out.size))
  clear hb x0 x1 x2 x3 x4 x5
  have bxr := HX.out w1 HW1.out
  obtain ⟨x0, x1, x2, x3, x4, x5⟩ := row6 bxr
  clear bxr
  go_wp2_with fail
  go_ret
  exact ⟨by first | rfl | (rw [HE.out]; done) | (rw [HE.out]; rfl), HZ1.out⟩
 have HE := Lib.hid (show primR sig g = true from by rw [primR_eq, c0, c1, c2]; first | done | rfl)
 rw [c0] at H1
 go_enter Tryz.func30, Tryz.ntmps30
 go_wp2_with fail
 rw [← HW0.out]
 (with_reducible refine H1.out.mono ?_)
 rintro e w1 ⟨rfl, hb⟩
 have HW1 := Lib.hid hb
 have HZ1 := Lib.hid (HB0.out.trans (hb.mono HB0.out.size))
 clear hb x0 x1 x2 x3 x4 x5
 have bxr := HX.out w1 HW1.out
 obtain ⟨x0, x1, x2, x3, x4, x5⟩ := row6 bxr
 clear bxr
 go_wp2_with fail
 go_ret
 exact ⟨by first | rfl | (rw [HE.out]; done) | (rw [HE.out]; rfl), HZ1.out⟩

theorem implIsIdentity_any (sig : List Ct) (g : Gr) (nv sv ov iv gv : Value) (w : World) (hs : SmallG g) (hz : SmallS sig) (hcap : CapOk gv) (hS : RSl RCt 3 w gv sig) (hG : RGr w nv sv ov iv g) :
  Calls Tryz.prog 27 #[gv, .agg #[.int .i64 g.roots, nv, sv, .int .i64 g.edges, ov, iv]] w fun e w' => e = .returned (.bool (identR sig g)) ∧ Below w.heap.size w w' := by
 have HG := Lib.hid (show ∀ W, Below w.heap.size w W → RGr W nv sv ov iv g from fun W hb => hG.below hb)
 have HS := Lib.hid (show ∀ W, Below w.heap.size w W → RSl RCt 3 W gv sig from fun W hb => hS.below RCt_keep hb)
 have HSM := Lib.hid hs
 obtain ⟨AN, cN, AS, cS, AO, cO, AI, cI, rfl, rfl, rfl, rfl⟩ := hG.form
 obtain ⟨AG, cG, rfl, _⟩ := hS.form
 obtain ⟨w0, hw0, hb0, hsz0, bx0⟩ := laid1 w (.cells #[.int .i64 g.roots, .slice AN g.nodes.length cN, .slice AS g.sites.length cS, .int .i64 g.edges, .slice AO g.outer.length cO, .slice AI g.inner.length cI] 31)
 have HX := Lib.hid (keepB bx0)
 have HB0 := Lib.hid hb0
 have HW0 := Lib.hid hw0
 have HGC := Lib.hid (show ∀ W, Below w.heap.size w W → Calls Tryz.prog 59 #[.slice AG sig.length cG, .agg #[.int .i64 g.roots, .slice AN g.nodes.length cN, .slice AS g.sites.length cS, .int .i64 g.edges, .slice AO g.outer.length cO, .slice AI g.inner.length cI]] W _ from fun W hb => isBigraph_any sig g _ _ _ _ _ W hs hz hcap (HS.out W hb) (HG.out W hb))
 have HID := Lib.hid (show goodG sig g = true → ∀ W, Below w.heap.size w W → Calls Tryz.prog 92 #[.int .i64 g.roots, .slice AO g.outer.length cO] W fun e w' => ∃ X : BX, e = .returned (.agg X.cells) ∧ X.g = idN g ∧ RG W w' X from fun hg W hb => by
  have hr := ((good_iff sig g).1 hg).r
  have h := identity_any g.roots.toNat AO cO g.outer W (by omega) hs.outer (by obtain ⟨A', c', e, hc⟩ := (HG.out W hb).o; cases e; exact hc)
  rw [show ((g.roots.toNat : Nat) : Int) = g.roots by omega] at h
  exact h)
 obtain ⟨x0, x1, x2, x3, x4, x5⟩ := row6 bx0
 rw [hw0] at x0 x1 x2 x3 x4 x5
 clear hs hG hb0 bx0 hw0 hS hz hcap x0 x1 x2 x3 x4 x5
 cases c0 : goodG sig g
 ·have HC0 := Lib.hid c0
  have HPB := Lib.hid (show identR sig g = false from by rw [identR_eq, c0]; rfl)
  clear c0
  go_enter Tryz.func27, Tryz.ntmps27
  go_wp2_with fail
  rw [← HW0.out]
  refine wp_region_vals (by kernel_rfl) [some 5, some 6, some 7, some 8, some 9, some 10, some 11, some 12, some 13, some 14, some 15, some 16, some 4] (fun q v W => match q with | 0 => v = .slice AG sig.length cG | 1 => v = .agg #[.int .i64 g.roots, .slice AN g.nodes.length cN, .slice AS g.sites.length cS, .int .i64 g.edges, .slice AO g.outer.length cO, .slice AI g.inner.length cI] | 2 => v = .bool false | 3 => v = .bool false | 4 => v = undef | 5 => v = undef | 6 => v = undef | 7 => v = undef | 8 => v = undef | 9 => v = undef | 10 => v = undef | 11 => v = .bool (identR sig g) | 12 => v = .bool (identR sig g) | _ => True) (by kernel_rfl) (by kernel_rfl) ?m3o ?s3t ?f3i
  case m3o =>
   intro q v W W' hb h
   match q, h with
   | 0, h | 1, h | 2, h | 3, h | 4, h | 5, h | 6, h | 7, h | 8, h | 9, h | 10, h | 11, h | 12, h => exact h
   | q + 13, _ => trivial
  case s3t =>
   intro L act W q oo hJ ho hd K3 hK3
   match q, ho with
   | 0, ho =>
    cases ho
    have hbW := hJ.bel
    have a0 : act.tmps[0]? = some _ := hJ.out 0 (by decide)
    clear hJ hd
    go_simp
    exact hK3 _ _ (Below.refl _ _) rfl
   | 1, ho =>
    cases ho
    have hbW := hJ.bel
    have a3 : act.tmps[3]? = some _ := hJ.out 3 (by decide)
    clear hJ hd
    have bxW := HX.out W hbW
    obtain ⟨x0, x1, x2, x3, x4, x5⟩ := row6 bxW
    clear bxW
    go_simp
    exact hK3 _ _ (Below.refl _ _) rfl
   | 2, ho =>
    cases ho
    simp [Region.binds] at hd
    have hbW := hJ.bel
    have v0 := hJ.val (by simp [hd] : L 0 = true) rfl fun _ h => h
    have v1 := hJ.val (by simp [hd] : L 1 = true) rfl fun _ h => h
    clear hJ hd
    have HBW := Lib.hid hbW
    clear hbW
    go_simp
    go_at_call 59
    refine (HGC.out W (HB0.out.trans (HBW.out.mono HB0.out.size))).mono ?_
    rintro e W' ⟨rfl, hb⟩
    go_simp
    exact hK3 _ _ hb (by rw [HC0.out]; first | done | rfl)
   | 3, ho =>
    cases ho
    simp [Region.binds] at hd
    have hbW := hJ.bel
    have v2 := hJ.val (by simp [hd] : L 2 = true) rfl fun _ h => h
    clear hJ hd
    go_simp
    exact hK3 _ _ (Below.refl _ _) rfl
   | 4, ho | 5, ho | 6, ho | 7, ho | 8, ho | 9, ho | 10, ho =>
    cases ho
    simp [Region.binds] at hd
    have hbW := hJ.bel
    have v3 := hJ.val (by simp [hd] : L 3 = true) rfl fun _ h => h
    clear hJ hd
    go_simp
    exact hK3 _ _ (Below.refl _ _) rfl
   | 11, ho =>
    cases ho
    simp [Region.binds] at hd
    have hbW := hJ.bel
    have v3 := hJ.val (by simp [hd] : L 3 = true) rfl fun _ h => h
    have v10 := hJ.val (by simp [hd] : L 10 = true) rfl fun _ h => h
    clear hJ hd
    go_simp
    exact hK3 _ _ (Below.refl _ _) (by rw [HPB.out]; first | done | rfl)
   | 12, ho =>
    cases ho
    simp [Region.binds] at hd
    have hbW := hJ.bel
    have v11 := hJ.val (by simp [hd] : L 11 = true) rfl fun _ h => h
    clear hJ hd
    go_simp
    exact hK3 _ _ (Below.refl _ _) rfl
   | q + 13, ho => simp at ho
  intro V W hbW hV
  have v0 : V 0 = _ := hV 0 5 rfl
  have v1 : V 1 = _ := hV 1 6 rfl
  have v2 : V 2 = _ := hV 2 7 rfl
  have v3 : V 3 = _ := hV 3 8 rfl
  have v4 : V 4 = _ := hV 4 9 rfl
  have v5 : V 5 = _ := hV 5 10 rfl
  have v6 : V 6 = _ := hV 6 11 rfl
  have v7 : V 7 = _ := hV 7 12 rfl
  have v8 : V 8 = _ := hV 8 13 rfl
  have v9 : V 9 = _ := hV 9 14 rfl
  have v10 : V 10 = _ := hV 10 15 rfl
  have v11 : V 11 = _ := hV 11 16 rfl
  have v12 : V 12 = _ := hV 12 4 rfl
  clear hV
  simp only [layV, List.setIfInBounds_toArray, List.set_cons_zero, List.set_cons_succ, v0, v1, v2, v3, v4, v5, v6, v7, v8, v9, v10, v11, v12]
  clear v0 v1 v2 v3 v4 v5 v6 v7 v8 v9 v10 v11 v12
  have HZ := Lib.hid (HB0.out.trans (hbW.mono HB0.out.size))
  clear hbW
  go_wp2_with fail
  go_ret
  exact ⟨rfl, HZ.out⟩
 have HC0 := Lib.hid c0
 have HPB := Lib.hid (show identR sig g = eqI g (idN g) from by rw [identR_eq, c0]; rfl)
 clear c0
 go_enter Tryz.func27, Tryz.ntmps27
 go_wp2_with fail
 rw [← HW0.out]
 refine wp_region_vals (by kernel_rfl) [some 5, some 6, some 7, some 8, some 9, some 10, some 11, some 12, some 13, some 14, some 15, some 16, some 4] (fun q v W => match q with | 0 => v = .slice AG sig.length cG | 1 => v = .agg #[.int .i64 g.roots, .slice AN g.nodes.length cN, .slice AS g.sites.length cS, .int .i64 g.edges, .slice AO g.outer.length cO, .slice AI g.inner.length cI] | 2 => v = .bool true | 3 => v = .bool true | 4 => v = .agg #[.int .i64 g.roots, .slice AN g.nodes.length cN, .slice AS g.sites.length cS, .int .i64 g.edges, .slice AO g.outer.length cO, .slice AI g.inner.length cI] | 5 => v = .pointer (some ⟨w.heap.size, 0, none⟩) | 6 => v = .int .i64 g.roots | 7 => v = .pointer (some ⟨w.heap.size, 4, none⟩) | 8 => v = .slice AO g.outer.length cO | 9 => ∃ X : BX, v = .agg X.cells ∧ (X.g = idN g ∧ RGr W X.nv X.sv X.ov X.iv X.g) | 10 => v = .bool (eqI g (idN g)) | 11 => v = .bool (identR sig g) | 12 => v = .bool (identR sig g) | _ => True) (by kernel_rfl) (by kernel_rfl) ?m4o ?s4t ?f4i
 case m4o =>
  intro q v W W' hb h
  match q, h with
  | 0, h | 1, h | 2, h | 3, h | 4, h | 5, h | 6, h | 7, h | 8, h | 10, h | 11, h | 12, h => exact h
  | 9, h => exact (by obtain ⟨X, e, h1, h2⟩ := h; exact ⟨X, e, h1, h2.below hb⟩)
  | q + 13, _ => trivial
 case s4t =>
  intro L act W q oo hJ ho hd K3 hK3
  match q, ho with
  | 0, ho =>
   cases ho
   have hbW := hJ.bel
   have a0 : act.tmps[0]? = some _ := hJ.out 0 (by decide)
   clear hJ hd
   go_simp
   exact hK3 _ _ (Below.refl _ _) rfl
  | 1, ho =>
   cases ho
   have hbW := hJ.bel
   have a3 : act.tmps[3]? = some _ := hJ.out 3 (by decide)
   clear hJ hd
   have bxW := HX.out W hbW
   obtain ⟨x0, x1, x2, x3, x4, x5⟩ := row6 bxW
   clear bxW
   go_simp
   exact hK3 _ _ (Below.refl _ _) rfl
  | 2, ho =>
   cases ho
   simp [Region.binds] at hd
   have hbW := hJ.bel
   have v0 := hJ.val (by simp [hd] : L 0 = true) rfl fun _ h => h
   have v1 := hJ.val (by simp [hd] : L 1 = true) rfl fun _ h => h
   clear hJ hd
   have HBW := Lib.hid hbW
   clear hbW
   go_simp
   go_at_call 59
   refine (HGC.out W (HB0.out.trans (HBW.out.mono HB0.out.size))).mono ?_
   rintro e W' ⟨rfl, hb⟩
   go_simp
   exact hK3 _ _ hb (by rw [HC0.out]; first | done | rfl)
  | 3, ho =>
   cases ho
   simp [Region.binds] at hd
   have hbW := hJ.bel
   have v2 := hJ.val (by simp [hd] : L 2 = true) rfl fun _ h => h
   clear hJ hd
   go_simp
   exact hK3 _ _ (Below.refl _ _) rfl
  | 4, ho =>
   cases ho
   simp [Region.binds] at hd
   have hbW := hJ.bel
   have a3 : act.tmps[3]? = some _ := hJ.out 3 (by decide)
   have v3 := hJ.val (by simp [hd] : L 3 = true) rfl fun _ h => h
   clear hJ hd
   have bxW := HX.out W hbW
   obtain ⟨x0, x1, x2, x3, x4, x5⟩ := row6 bxW
   clear bxW
   go_simp
   exact hK3 _ _ (Below.refl _ _) rfl
  | 5, ho | 7, ho =>
   cases ho
   simp [Region.binds] at hd
   have hbW := hJ.bel
   have a3 : act.tmps[3]? = some _ := hJ.out 3 (by decide)
   have v3 := hJ.val (by simp [hd] : L 3 = true) rfl fun _ h => h
   clear hJ hd
   go_simp
   exact hK3 _ _ (Below.refl _ _) rfl
  | 6, ho =>
   cases ho
   simp [Region.binds] at hd
   have hbW := hJ.bel
   have v3 := hJ.val (by simp [hd] : L 3 = true) rfl fun _ h => h
   have v5 := hJ.val (by simp [hd] : L 5 = true) rfl fun _ h => h
   clear hJ hd
   have bxW := HX.out W hbW
   obtain ⟨x0, x1, x2, x3, x4, x5⟩ := row6 bxW
   clear bxW
   go_simp
   exact hK3 _ _ (Below.refl _ _) rfl
  | 8, ho =>
   cases ho
   simp [Region.binds] at hd
   have hbW := hJ.bel
   have v3 := hJ.val (by simp [hd] : L 3 = true) rfl fun _ h => h
   have v7 := hJ.val (by simp [hd] : L 7 = true) rfl fun _ h => h
   clear hJ hd
   have bxW := HX.out W hbW
   obtain ⟨x0, x1, x2, x3, x4, x5⟩ := row6 bxW
   clear bxW
   go_simp
   exact hK3 _ _ (Below.refl _ _) rfl
  | 9, ho =>
   cases ho
   simp [Region.binds] at hd
   have hbW := hJ.bel
   have v3 := hJ.val (by simp [hd] : L 3 = true) rfl fun _ h => h
   have v6 := hJ.val (by simp [hd] : L 6 = true) rfl fun _ h => h
   have v8 := hJ.val (by simp [hd] : L 8 = true) rfl fun _ h => h
   clear hJ hd
   have HBW := Lib.hid hbW
   clear hbW
   go_simp
   go_at_call 92
   refine (HID.out HC0.out W (HB0.out.trans (HBW.out.mono HB0.out.size))).mono ?_
   rintro e W' ⟨X, rfl, hg, hr, hb⟩
   go_simp
   exact hK3 _ _ hb ⟨X, rfl, hg, hr.rgr (by rw [hg]; exact idN_small ((good_iff sig g).1 HC0.out) HSM.out)⟩
  | 10, ho =>
   cases ho
   simp [Region.binds] at hd
   have hbW := hJ.bel
   have v3 := hJ.val (by simp [hd] : L 3 = true) rfl fun _ h => h
   have v4 := hJ.val (by simp [hd] : L 4 = true) rfl fun _ h => h
   have l9 : L 9 = true := by simp [hd]
   obtain ⟨u9, v9, X, rfl, hr9⟩ := hJ.has 9 14 l9 rfl
   clear hJ hd
   have HBW := Lib.hid hbW
   clear hbW
   go_simp
   go_at_call 106
   refine (sameBigraphs_any g X.g _ _ _ _ X.nv X.sv X.ov X.iv W HSM.out (by rw [hr9.1]; exact idN_small ((good_iff sig g).1 HC0.out) HSM.out) (by rw [hr9.1]; rfl) (HG.out W (HB0.out.trans (HBW.out.mono HB0.out.size))) hr9.2).mono ?_
   rintro e W' ⟨rfl, hb⟩
   go_simp
   exact hK3 _ _ hb (by first | rfl | (rw [hr9.1]; done) | (rw [hr9.1]; rfl))
  | 11, ho =>
   cases ho
   simp [Region.binds] at hd
   have hbW := hJ.bel
   have v3 := hJ.val (by simp [hd] : L 3 = true) rfl fun _ h => h
   have v10 := hJ.val (by simp [hd] : L 10 = true) rfl fun _ h => h
   clear hJ hd
   go_simp
   exact hK3 _ _ (Below.refl _ _) (by rw [HPB.out]; first | done | rfl)
  | 12, ho =>
   cases ho
   simp [Region.binds] at hd
   have hbW := hJ.bel
   have v11 := hJ.val (by simp [hd] : L 11 = true) rfl fun _ h => h
   clear hJ hd
   go_simp
   exact hK3 _ _ (Below.refl _ _) rfl
  | q + 13, ho => simp at ho
 intro V W hbW hV
 have v0 : V 0 = _ := hV 0 5 rfl
 have v1 : V 1 = _ := hV 1 6 rfl
 have v2 : V 2 = _ := hV 2 7 rfl
 have v3 : V 3 = _ := hV 3 8 rfl
 have v4 : V 4 = _ := hV 4 9 rfl
 have v5 : V 5 = _ := hV 5 10 rfl
 have v6 : V 6 = _ := hV 6 11 rfl
 have v7 : V 7 = _ := hV 7 12 rfl
 have v8 : V 8 = _ := hV 8 13 rfl
 obtain ⟨X9, v9, hr9⟩ : ∃ X : BX, V 9 = .agg X.cells ∧ (X.g = idN g ∧ RGr W X.nv X.sv X.ov X.iv X.g) := hV 9 14 rfl
 have v10 : V 10 = _ := hV 10 15 rfl
 have v11 : V 11 = _ := hV 11 16 rfl
 have v12 : V 12 = _ := hV 12 4 rfl
 clear hV
 simp only [layV, List.setIfInBounds_toArray, List.set_cons_zero, List.set_cons_succ, v0, v1, v2, v3, v4, v5, v6, v7, v8, v9, v10, v11, v12]
 clear v0 v1 v2 v3 v4 v5 v6 v7 v8 v9 v10 v11 v12
 have HZ := Lib.hid (HB0.out.trans (hbW.mono HB0.out.size))
 clear hbW
 go_wp2_with fail
 go_ret
 exact ⟨rfl, HZ.out⟩

end Go.Proofs.YtijkdpdmclkmlaaGreatDoor
