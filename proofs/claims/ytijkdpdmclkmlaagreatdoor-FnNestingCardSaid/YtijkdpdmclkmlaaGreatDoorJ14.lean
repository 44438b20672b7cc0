/- Bigraphs: the program's test walked. Idle links, and the inner names' list: both packages walked. -/
import Derived.Test.YtijkdpdmclkmlaaGreatDoorProg
import Derived.Test.YtijkdpdmclkmlaaGreatDoorJ0
import Derived.Test.YtijkdpdmclkmlaaGreatDoorJ12
import Derived.Test.YtijkdpdmclkmlaaGreatDoorJ7
import Derived.Test.YtijkdpdmclkmlaaGreatDoorJ5
import Derived.Test.YtijkdpdmclkmlaaGreatDoorJ9
set_option linter.unusedSimpArgs false
set_option linter.unusedVariables false
set_option maxRecDepth 100000
set_option maxHeartbeats 16000000
namespace Go.Proofs.YtijkdpdmclkmlaaGreatDoor
open Go.RowKit Go.Sort

theorem any_notG (n : Nat) (q : Nat → Bool) : (anyR n fun k => !q k) = !allR n q := by
 unfold anyR allR
 induction List.range n with
 | nil => rfl
 | cons a l ih => rw [List.any_cons, List.all_cons, ih, Bool.not_and]

theorem isBig1_any (g : Gr) (nv sv ov iv : Value) (x : Int) (pb : Nat) (w : World) (hs : SmallG g) (hG : RGr w nv sv ov iv g) (hb : w.heap[pb]? = some (.cells #[.int .i64 g.roots, nv, sv, .int .i64 g.edges, ov, iv] 31)) :
  Calls Tryz.prog 143 #[.int .i64 x, .pointer (some ⟨pb, 0, none⟩)] w fun e w' => e = .returned (.bool (!linkB g x)) ∧ Below w.heap.size w w' := by
 have H := Lib.hid (isLink_any g nv sv ov iv x w hs hG)
 obtain ⟨x0, x1, x2, x3, x4, x5⟩ := row6 hb
 obtain ⟨AN, cN, AS, cS, AO, cO, AI, cI, rfl, rfl, rfl, rfl⟩ := hG.form
 clear hG hs hb
 go_enter Tryz.func143, Tryz.ntmps143
 go_wp2_with ((with_reducible refine H.out.mono ?_); rintro e w1 ⟨rfl, hb1⟩)
 go_ret
 exact ⟨rfl, hb1⟩

theorem isBig2_any (sig : List Ct) (g : Gr) (nv sv ov iv gv : Value) (p : Int) (pb ps : Nat) (w : World) (hs : SmallG g) (hS : RSl RCt 3 w gv sig) (hsl : sig.length ≤ 1000) (hG : RGr w nv sv ov iv g) (hc : CtlOk sig g g.nodes.length) (hb : w.heap[pb]? = some (.cells #[.int .i64 g.roots, nv, sv, .int .i64 g.edges, ov, iv] 31)) (hps : w.cell? ⟨ps, 0, none⟩ = some gv) :
  Calls Tryz.prog 145 #[.int .i64 p, .pointer (some ⟨pb, 0, none⟩), .pointer (some ⟨ps, 0, none⟩)] w fun e w' => e = .returned (.bool (!underB sig g p g.nodes.length)) ∧ Below w.heap.size w w' := by
 have H := Lib.hid (isParent_any sig g nv sv ov iv gv p g.nodes.length w hs hS hsl hG (Nat.le_refl _) hc)
 obtain ⟨x0, x1, x2, x3, x4, x5⟩ := row6 hb
 obtain ⟨AN, cN, AS, cS, AO, cO, AI, cI, rfl, rfl, rfl, rfl⟩ := hG.form
 obtain ⟨AG, cG, rfl, _⟩ := hS.form
 clear hG hs hb hS hc
 go_enter Tryz.func145, Tryz.ntmps145
 go_wp2_with ((with_reducible refine H.out.mono ?_); rintro e w1 ⟨rfl, hb1⟩)
 go_ret
 exact ⟨rfl, hb1⟩

theorem isBig3_any (g : Gr) (nv sv ov iv : Value) (x : Wi) (pb : Nat) (w : World) (hs : SmallG g) (hG : RGr w nv sv ov iv g) (hb : w.heap[pb]? = some (.cells #[.int .i64 g.roots, nv, sv, .int .i64 g.edges, ov, iv] 31)) :
  Calls Tryz.prog 146 #[.agg #[.string x.1, .int .i64 x.2], .pointer (some ⟨pb, 0, none⟩)] w fun e w' => e = .returned (.bool (!linkB g x.2)) ∧ Below w.heap.size w w' := by
 have hal : Below w.heap.size w (w.alloc (.cells #[.string x.1, .int .i64 x.2] 90)) := (Below.refl _ _).alloc (Nat.le_refl _) _
 have H := Lib.hid (isLink_any g nv sv ov iv x.2 _ hs (hG.below hal))
 have HB := Lib.hid hal
 have hb := (hal.block pb (Array.getElem?_eq_some_iff.1 hb).1).trans hb
 obtain ⟨x0, x1, x2, x3, x4, x5⟩ := row6 hb
 obtain ⟨AN, cN, AS, cS, AO, cO, AI, cI, rfl, rfl, rfl, rfl⟩ := hG.form
 clear hG hs hb hal
 go_enter Tryz.func146, Tryz.ntmps146
 go_wp2_with ((with_reducible refine H.out.mono ?_); rintro e w1 ⟨rfl, hb1⟩)
 go_ret
 exact ⟨rfl, HB.out.trans (hb1.mono HB.out.size)⟩

theorem isBigraph_any (sig : List Ct) (g : Gr) (nv sv ov iv gv : Value) (w : World) (hs : SmallG g) (hz : SmallS sig) (hcap : CapOk gv) (hS : RSl RCt 3 w gv sig) (hG : RGr w nv sv ov iv g) :
  Calls Tryz.prog 59 #[gv, .agg #[.int .i64 g.roots, nv, sv, .int .i64 g.edges, ov, iv]] w fun e w' => e = .returned (.bool (goodG sig g)) ∧ Below w.heap.size w w' := by
 have HG := Lib.hid (show ∀ W, Below w.heap.size w W → RGr W nv sv ov iv g from fun W hb => hG.below hb)
 have HS := Lib.hid (show ∀ W, Below w.heap.size w W → RSl RCt 3 W gv sig from fun W hb => hS.below RCt_keep hb)
 have HSM := Lib.hid hs
 have HSZ := Lib.hid hz
 have HCP := Lib.hid hcap
 have hsl := hz.len
 have n1 := hs.nodes
 have n2 := hs.sites
 have n3 := hs.inner
 have n4 := hs.outer
 have HIS := Lib.hid (innerN_small hs)
 obtain ⟨AN, cN, AS, cS, AO, cO, AI, cI, rfl, rfl, rfl, rfl⟩ := hG.form
 obtain ⟨AG, cG, rfl, _⟩ := hS.form
 obtain ⟨w0, hw0, hb0, hs0, bs0, bx0⟩ := laid2 w (.cells #[.slice AG sig.length cG] 45) (.cells #[.int .i64 g.roots, .slice AN g.nodes.length cN, .slice AS g.sites.length cS, .int .i64 g.edges, .slice AO g.outer.length cO, .slice AI g.inner.length cI] 31)
 have HX := Lib.hid (keepB bx0)
 have HY := Lib.hid (show ∀ W, Below w0.heap.size w0 W → W.cell? ⟨w.heap.size, 0, none⟩ = some (.slice AG sig.length cG) from fun W hW => cell_of_row _ _ 0 _ _ _ ((hW.block _ (by omega)).trans bs0))
 have HB0 := Lib.hid hb0
 have HW0 := Lib.hid hw0
 have H1 := Lib.hid (isSignature_any _ sig w0 hz hcap (HS.out w0 hb0))
 have HI := Lib.hid within_any
 have y0 := HY.out w0 (Below.refl _ _)
 rw [hw0] at y0
 clear hS hG hs hz hcap hb0 bx0 bs0 hw0
 have HHD := Lib.hid (show headB sig g = (sigB sig && inB g.roots 0 4 && decide (g.nodes.length ≤ 8) && decide (g.sites.length ≤ 4) && inB g.edges 0 8) from rfl)
 cases h1 : sigB sig
 ·have HFF := Lib.hid (head_false (show headB sig g = false from by rw [HHD.out, h1]; rfl))
  rw [h1] at H1
  go_enter Tryz.func59, Tryz.ntmps59
  go_wp2_with fail
  rw [← HW0.out]
  refine H1.out.mono ?_
  rintro e w1 ⟨rfl, hb1⟩
  have HB1 := Lib.hid hb1
  have HZ1 := Lib.hid (HB0.out.trans (hb1.mono HB0.out.size))
  have bx1 := HX.out w1 hb1
  obtain ⟨x0, x1, x2, x3, x4, x5⟩ := row6 bx1
  clear hb1 bx1 y0
  go_wp2_with ((with_reducible refine (HI.out _ _ _ _).mono ?_); rintro e w' ⟨rfl, rfl⟩)
  go_ret
  exact ⟨by rw [HFF.out]; rfl, HZ1.out⟩
 rw [h1] at H1
 cases h2 : inB g.roots 0 4
 ·have HFF := Lib.hid (head_false (show headB sig g = false from by rw [HHD.out, h2]; simp))
  go_enter Tryz.func59, Tryz.ntmps59
  go_wp2_with fail
  rw [← HW0.out]
  refine H1.out.mono ?_
  rintro e w1 ⟨rfl, hb1⟩
  have HB1 := Lib.hid hb1
  have HZ1 := Lib.hid (HB0.out.trans (hb1.mono HB0.out.size))
  have bx1 := HX.out w1 hb1
  obtain ⟨x0, x1, x2, x3, x4, x5⟩ := row6 bx1
  clear hb1 bx1 y0
  go_wp2_with ((with_reducible refine (HI.out _ _ _ _).mono ?_); rintro e w' ⟨rfl, rfl⟩)
  go_ret
  exact ⟨by rw [HFF.out]; rfl, HZ1.out⟩
 skip
 by_cases h3 : (8 : Int) < (g.nodes.length : Int)
 ·have HFF := Lib.hid (head_false (show headB sig g = false from by rw [HHD.out, decide_eq_false (show ¬ g.nodes.length ≤ 8 by omega)]; simp))
  go_enter Tryz.func59, Tryz.ntmps59
  go_wp2_with fail
  rw [← HW0.out]
  refine H1.out.mono ?_
  rintro e w1 ⟨rfl, hb1⟩
  have HB1 := Lib.hid hb1
  have HZ1 := Lib.hid (HB0.out.trans (hb1.mono HB0.out.size))
  have bx1 := HX.out w1 hb1
  obtain ⟨x0, x1, x2, x3, x4, x5⟩ := row6 bx1
  clear hb1 bx1 y0
  go_wp2_with ((with_reducible refine (HI.out _ _ _ _).mono ?_); rintro e w' ⟨rfl, rfl⟩)
  go_ret
  exact ⟨by rw [HFF.out]; rfl, HZ1.out⟩
 skip
 by_cases h4 : (4 : Int) < (g.sites.length : Int)
 ·have HFF := Lib.hid (head_false (show headB sig g = false from by rw [HHD.out, decide_eq_false (show ¬ g.sites.length ≤ 4 by omega)]; simp))
  go_enter Tryz.func59, Tryz.ntmps59
  go_wp2_with fail
  rw [← HW0.out]
  refine H1.out.mono ?_
  rintro e w1 ⟨rfl, hb1⟩
  have HB1 := Lib.hid hb1
  have HZ1 := Lib.hid (HB0.out.trans (hb1.mono HB0.out.size))
  have bx1 := HX.out w1 hb1
  obtain ⟨x0, x1, x2, x3, x4, x5⟩ := row6 bx1
  clear hb1 bx1 y0
  go_wp2_with ((with_reducible refine (HI.out _ _ _ _).mono ?_); rintro e w' ⟨rfl, rfl⟩)
  go_ret
  exact ⟨by rw [HFF.out]; rfl, HZ1.out⟩
 skip
 cases h5 : inB g.edges 0 8
 ·have HFF := Lib.hid (head_false (show headB sig g = false from by rw [HHD.out, h5]; simp))
  go_enter Tryz.func59, Tryz.ntmps59
  go_wp2_with fail
  rw [← HW0.out]
  refine H1.out.mono ?_
  rintro e w1 ⟨rfl, hb1⟩
  have HB1 := Lib.hid hb1
  have HZ1 := Lib.hid (HB0.out.trans (hb1.mono HB0.out.size))
  have bx1 := HX.out w1 hb1
  obtain ⟨x0, x1, x2, x3, x4, x5⟩ := row6 bx1
  clear hb1 bx1 y0
  go_wp2_with ((with_reducible refine (HI.out _ _ _ _).mono ?_); rintro e w' ⟨rfl, rfl⟩)
  go_ret
  exact ⟨by rw [HFF.out]; rfl, HZ1.out⟩
 skip
 have HH := Lib.hid (show headB sig g = true from by rw [HHD.out, h1, h2, h5, decide_eq_true (show g.nodes.length ≤ 8 by omega), decide_eq_true (show g.sites.length ≤ 4 by omega)]; rfl)
 have HGG := Lib.hid (show goodG sig g = (namesB g.outer && namesB (innerN g) && nodsB sig g && sitsB sig g && innsB g) from by rw [goodG_of, HH.out, Bool.true_and])
 go_enter Tryz.func59, Tryz.ntmps59
 go_wp2_with fail
 rw [← HW0.out]
 refine H1.out.mono ?_
 rintro e w1 ⟨rfl, hb1⟩
 have HB1 := Lib.hid hb1
 have HZ1 := Lib.hid (HB0.out.trans (hb1.mono HB0.out.size))
 have bx1 := HX.out w1 hb1
 obtain ⟨x0, x1, x2, x3, x4, x5⟩ := row6 bx1
 clear hb1 bx1 y0
 obtain ⟨A2, c2, e2, r2⟩ := (HG.out w1 HZ1.out).o
 cases e2
 have H2 := Lib.hid (areNames_any AO cO g.outer w1 n4 HSM.out.onames r2)
 clear r2
 cases h6 : namesB g.outer
 ·have HFF := Lib.hid (outer_false (sig := sig) h6)
  rw [h6] at H2
  go_wp2_with ((with_reducible refine (HI.out _ _ _ _).mono ?_); rintro e w' ⟨rfl, rfl⟩)
  refine H2.out.mono ?_
  rintro e w2 ⟨rfl, hb2⟩
  have HB2 := Lib.hid (HB1.out.trans (hb2.mono HB1.out.size))
  have HZ2 := Lib.hid (HZ1.out.trans (hb2.mono HZ1.out.size))
  have bx2 := HX.out w2 HB2.out
  clear hb2 x0 x1 x2 x3 x4 x5
  obtain ⟨x0, x1, x2, x3, x4, x5⟩ := row6 bx2
  go_wp2_with fail
  go_ret
  exact ⟨by rw [HFF.out]; rfl, HZ2.out⟩
 rw [h6] at H2
 go_wp2_with ((with_reducible refine (HI.out _ _ _ _).mono ?_); rintro e w' ⟨rfl, rfl⟩)
 refine H2.out.mono ?_
 rintro e w2 ⟨rfl, hb2⟩
 have HB2 := Lib.hid (HB1.out.trans (hb2.mono HB1.out.size))
 have HZ2 := Lib.hid (HZ1.out.trans (hb2.mono HZ1.out.size))
 have bx2 := HX.out w2 HB2.out
 clear hb2 x0 x1 x2 x3 x4 x5
 obtain ⟨x0, x1, x2, x3, x4, x5⟩ := row6 bx2
 have H3 := Lib.hid (innerNames_any g _ _ _ _ w2 HSM.out (HG.out w2 HZ2.out))
 go_wp2_with fail
 refine H3.out.mono ?_
 rintro e w3 ⟨r3, rfl, ho3, hb3⟩
 obtain ⟨A3, c3, rfl, ho3⟩ := owns_form ho3
 have HB3 := Lib.hid (HB2.out.trans (hb3.mono HB2.out.size))
 have HZ3 := Lib.hid (HZ2.out.trans (hb3.mono HZ2.out.size))
 have H4 := Lib.hid (areNames_any A3 c3 (innerN g) w3 HIS.out.1 HIS.out.2 (Cells.of_owns ho3))
 rw [innerN_len] at H4
 clear ho3 hb3 bx2 x0 x1 x2 x3 x4 x5
 cases h8 : namesB (innerN g)
 ·have HFF := Lib.hid (inner_false (sig := sig) h8)
  rw [h8] at H4
  go_wp2_with fail
  refine H4.out.mono ?_
  rintro e w4 ⟨rfl, hb4⟩
  have HB4 := Lib.hid (HB3.out.trans (hb4.mono HB3.out.size))
  have HZ4 := Lib.hid (HZ3.out.trans (hb4.mono HZ3.out.size))
  clear hb4
  go_wp2_with fail
  go_ret
  exact ⟨by rw [HFF.out]; rfl, HZ4.out⟩
 rw [h8] at H4
 go_wp2_with fail
 refine H4.out.mono ?_
 rintro e w4 ⟨rfl, hb4⟩
 have HB4 := Lib.hid (HB3.out.trans (hb4.mono HB3.out.size))
 have HZ4 := Lib.hid (HZ3.out.trans (hb4.mono HZ3.out.size))
 clear hb4
 have HG3 := Lib.hid (show goodG sig g = (nodsB sig g && sitsB sig g && innsB g) from by rw [HGG.out, h6, h8]; rfl)
 have bx4 := HX.out w4 HB4.out
 obtain ⟨x0, x1, x2, x3, x4, x5⟩ := row6 bx4
 clear bx4
 go_wp2_with fail
 go_loopw [49] (fun z wx => ∃ k : Nat, k ≤ g.nodes.length ∧ z = .int .i64 k ∧ (∀ j, j < k → nodB sig g j = true) ∧ CtlOk sig g k ∧ Below w0.heap.size w0 wx)
  (fun z _ => g.nodes.length - (intOf z).toNat)
 case atStart => exact ⟨0, Nat.zero_le _, rfl, fun j hj => by omega, fun j hj => by omega, HB4.out⟩
 clear x0 x1 x2 x3 x4 x5
 obtain ⟨k, hk, rfl, hall, hctl, hbr⟩ := hrel
 have HALL := Lib.hid hall
 have HBR := Lib.hid hbr
 have HZR := Lib.hid (HB0.out.trans (hbr.mono HB0.out.size))
 have hszr := hbr.size
 clear hall
 by_cases hlt : k < g.nodes.length
 ·obtain ⟨bn, on, cn, AL, dL, eN, k0, k1, k2, kL⟩ := nod_at (HG.out wr HZR.out).n hlt
  rw [← nodA_get hlt] at k0 k1 k2 kL
  obtain ⟨x, hX⟩ : ∃ x, x = nodA g k := ⟨_, rfl⟩
  have hll : x.2.2.length ≤ 1000 := by rw [hX, nodA_get hlt]; exact HSM.out.links _ (List.getElem_mem hlt)
  have HAT := Lib.hid (show nodB sig g k = (inB x.1 0 ((sig.length : Int) - 1) && underB sig g x.2.1 k && ((x.2.2.length : Int) == portsA sig x.1) && allR x.2.2.length fun k => linkB g (x.2.2.getD k 0)) from by rw [hX]; rfl)
  rw [← hX] at k0 k1 k2 kL
  have HCT := Lib.hid hctl
  cases eN
  obtain ⟨w1, hw1, hbw, hsw, bn1⟩ := laid1 wr (.cells #[.int .i64 x.1, .int .i64 x.2.1, .slice AL x.2.2.length dL] 88)
  have HBW := Lib.hid (HBR.out.trans (hbw.mono HBR.out.size))
  have HZW := Lib.hid (HZR.out.trans (hbw.mono HZR.out.size))
  have HL := Lib.hid (show ∀ W, Below w1.heap.size w1 W → Cells W AL (ints x.2.2) from fun W hb => (kL.below hbw).below hb)
  have bxw := HX.out w1 HBW.out
  have p0 := cell_regrown (cell_of_row _ _ 0 _ _ _ bxw)
  have p1 := cell_regrown (cell_of_row _ _ 1 _ _ _ bxw)
  have p2 := cell_regrown (cell_of_row _ _ 2 _ _ _ bxw)
  have p3 := cell_regrown (cell_of_row _ _ 3 _ _ _ bxw)
  have p4 := cell_regrown (cell_of_row _ _ 4 _ _ _ bxw)
  have p5 := cell_regrown (cell_of_row _ _ 5 _ _ _ bxw)
  have q0 := cell_regrown (cell_of_row _ _ 0 _ _ _ bn1)
  have q1 := cell_regrown (cell_of_row _ _ 1 _ _ _ bn1)
  have q2 := cell_regrown (cell_of_row _ _ 2 _ _ _ bn1)
  have ys := cell_regrown (HY.out w1 HBW.out)
  have HRG := Lib.hid (fun d os => HZW.out.trans ((below_regrown w1 d os).mono HZW.out.size))
  have HRB := Lib.hid (fun d os => HBW.out.trans ((below_regrown w1 d os).mono HBW.out.size))
  have CI := Lib.hid (fun d os => Calls.regrown_of (same_below (within_any x.1 0 ((sig.length : Int) - 1) (grow (redrawn w1 d) os))))
  have CU := Lib.hid (fun d os => Calls.regrown_of (isParent_any sig g _ _ _ _ _ x.2.1 k (grow (redrawn w1 d) os) HSM.out (HS.out _ (HRG.out d os)) hsl (HG.out _ (HRG.out d os)) (by omega) HCT.out))
  have CC := Lib.hid (fun d os => Calls.regrown_of (containsFuncGI_any AL dL x.2.2 143 #[.pointer (some ⟨w.heap.size + 1, 0, none⟩)] (fun k => !linkB g (x.2.2.getD k 0)) (grow (redrawn w1 d) os) (by omega) (HL.out _ (below_regrown w1 d os)) (enter_of Tryz.func143 (by kernel_rfl) (by kernel_rfl)) (fun q y W hq hW => by
   have e : y = x.2.2.getD q 0 := by simp [List.getD, hq]
   rw [← e]
   exact isBig1_any g _ _ _ _ y (w.heap.size + 1) W HSM.out (HG.out W ((HRG.out d os).trans (hW.mono (HRG.out d os).size))) (HX.out W ((HRB.out d os).trans (hW.mono (HRB.out d os).size))))))
  rw [any_notG] at CC
  have HW1 := Lib.hid hw1
  have hwr := IntWalk.i64_in ((sig.length : Int) - 1) (by omega)
  have HFA := Lib.hid (fun h => nods_false (sig := sig) hlt h)
  have HTA := Lib.hid (fun h => all_next HALL.out h)
  have HCN := Lib.hid (fun h => ctl_next HCT.out h)
  clear hX kL hctl hbr hbw bn1 bxw hw1
  cases h1 : inB x.1 0 ((sig.length : Int) - 1)
  ·have HFF := Lib.hid (HFA.out (by rw [HAT.out, h1]; rfl))
   rw [h1] at CI
   clear h1
   go_wp2_with fail
   rw [← HW1.out]
   refine wp_region_quiet_below (by kernel_rfl) (by kernel_rfl) ?_
   repeat (go_big_quiet_step (first | exact CI.out _ _ | exact CU.out _ _ | exact CC.out _ _))
   refine wpQuiet_nil ?_
   intro _ hw'
   obtain ⟨⟨dq5, osq5⟩, hw''⟩ := hw'
   subst hw''
   have hb5 := below_regrown w1 dq5 osq5
   have HZ5 := Lib.hid (HZW.out.trans (hb5.mono HZW.out.size))
   go_wp2_with fail
   go_ret
   exact ⟨by rw [HFF.out]; rfl, HZ5.out⟩
  obtain ⟨z0, z1⟩ := inB_true h1
  obtain ⟨m, hm⟩ := Int.eq_ofNat_of_zero_le z0
  have hml : m < sig.length := by omega
  obtain ⟨b', o', c', eS, _, s1, _⟩ := ct_at (HS.out w1 HZW.out) hml
  have HP := Lib.hid (show portsA sig x.1 = sig[m].2.1 from by unfold portsA; rw [hm, Int.toNat_natCast, ctA_get hml])
  rw [HP.out] at HAT
  rw [h1] at CI HAT
  clear h1 z0 z1 HP
  have s1 := cell_regrown s1
  cases eS
  generalize sig[m].2.1 = y at *
  have HM := Lib.hid hm
  rw [hm] at q0 k0 CI
  rw [hm] at HW1
  have d2 : (0 : Int) ≤ (m : Int) := by omega
  have d3 : (m : Int) < (sig.length : Int) := by omega
  cases h2 : underB sig g x.2.1 k
  ·have HFF := Lib.hid (HFA.out (by rw [HAT.out, h2]; rfl))
   rw [h2] at CU
   clear h2
   go_wp2_with fail
   rw [← HW1.out]
   refine wp_region_quiet_below (by kernel_rfl) (by kernel_rfl) ?_
   repeat (go_big_quiet_step (first | exact CI.out _ _ | exact CU.out _ _ | exact CC.out _ _))
   refine wpQuiet_nil ?_
   intro _ hw'
   obtain ⟨⟨dq5, osq5⟩, hw''⟩ := hw'
   subst hw''
   have hb5 := below_regrown w1 dq5 osq5
   have HZ5 := Lib.hid (HZW.out.trans (hb5.mono HZW.out.size))
   go_wp2_with fail
   go_ret
   exact ⟨by rw [HFF.out]; rfl, HZ5.out⟩
  rw [h2] at CU HAT
  clear h2
  cases h3 : ((x.2.2.length : Int) == y)
  ·have HFF := Lib.hid (HFA.out (by rw [HAT.out, h3]; rfl))
   have h3' : ((x.2.2.length : Int) != y) = true := by rw [bne, h3]; rfl
   go_wp2_with fail
   rw [← HW1.out]
   refine wp_region_quiet_below (by kernel_rfl) (by kernel_rfl) ?_
   repeat (go_big_quiet_step (first | exact CI.out _ _ | exact CU.out _ _ | exact CC.out _ _))
   refine wpQuiet_nil ?_
   intro _ hw'
   obtain ⟨⟨dq5, osq5⟩, hw''⟩ := hw'
   subst hw''
   have hb5 := below_regrown w1 dq5 osq5
   have HZ5 := Lib.hid (HZW.out.trans (hb5.mono HZW.out.size))
   go_wp2_with fail
   go_ret
   exact ⟨by rw [HFF.out]; rfl, HZ5.out⟩
  have h3' : ((x.2.2.length : Int) != y) = false := by rw [bne, h3]; rfl
  rw [h3] at HAT
  cases h4 : allR x.2.2.length (fun k => linkB g (x.2.2.getD k 0))
  ·have HFF := Lib.hid (HFA.out (by rw [HAT.out, h4]; rfl))
   rw [h4] at CC
   clear h4
   go_wp2_with fail
   rw [← HW1.out]
   refine wp_region_quiet_below (by kernel_rfl) (by kernel_rfl) ?_
   repeat (go_big_quiet_step (first | exact CI.out _ _ | exact CU.out _ _ | exact CC.out _ _))
   refine wpQuiet_nil ?_
   intro _ hw'
   obtain ⟨⟨dq5, osq5⟩, hw''⟩ := hw'
   subst hw''
   have hb5 := below_regrown w1 dq5 osq5
   have HZ5 := Lib.hid (HZW.out.trans (hb5.mono HZW.out.size))
   go_wp2_with fail
   go_ret
   exact ⟨by rw [HFF.out]; rfl, HZ5.out⟩
  have hnb : nodB sig g k = true := by rw [HAT.out, h4]; rfl
  have HTT := Lib.hid (HTA.out hnb)
  have HCC := Lib.hid (HCN.out hnb)
  rw [h4] at CC
  clear h4 hnb
  go_wp2_with fail
  rw [← HW1.out]
  refine wp_region_quiet_below (by kernel_rfl) (by kernel_rfl) ?_
  repeat (go_big_quiet_step (first | exact CI.out _ _ | exact CU.out _ _ | exact CC.out _ _))
  refine wpQuiet_nil ?_
  intro _ hw'
  obtain ⟨⟨dq5, osq5⟩, hw''⟩ := hw'
  subst hw''
  have hb5 := below_regrown w1 dq5 osq5
  have HB5 := Lib.hid (HBW.out.trans (hb5.mono HBW.out.size))
  go_wp2_with fail
  go_roundw
  case rel => exact ⟨k + 1, by omega, by go_num, HTT.out, HCC.out, HB5.out⟩
  case measure => simp [intOf]; omega
 obtain rfl : k = g.nodes.length := by omega
 have HNS := Lib.hid (show nodsB sig g = true from allR_true HALL.out)
 have HCT := Lib.hid hctl
 have bxr := HX.out wr hbr
 obtain ⟨x0, x1, x2, x3, x4, x5⟩ := row6 bxr
 have yr := HY.out wr hbr
 obtain ⟨A5, c5, e5, r5⟩ := (HG.out wr HZR.out).s
 cases e5
 have C2 := Lib.hid (containsFuncGI_any AS cS g.sites 145 #[.pointer (some ⟨w.heap.size + 1, 0, none⟩), .pointer (some ⟨w.heap.size, 0, none⟩)] (fun k => !underB sig g (g.sites.getD k 0) g.nodes.length) wr (by omega) r5 (enter_of Tryz.func145 (by kernel_rfl) (by kernel_rfl)) (fun q y W hq hW => by
  have e : y = g.sites.getD q 0 := by simp [List.getD, hq]
  have hZ := HZR.out.trans (hW.mono HZR.out.size)
  have hB := HBR.out.trans (hW.mono HBR.out.size)
  rw [← e]
  exact isBig2_any sig g _ _ _ _ _ y (w.heap.size + 1) w.heap.size W HSM.out (HS.out W hZ) hsl (HG.out W hZ) HCT.out (HX.out W hB) (HY.out W hB)))
 rw [any_notG] at C2
 have HGF := Lib.hid (show goodG sig g = (allR g.sites.length (fun k => underB sig g (g.sites.getD k 0) g.nodes.length) && allR g.inner.length (fun k => linkB g (wiA g k).2)) from by rw [HG3.out, HNS.out]; rfl)
 clear hctl hbr bxr r5
 cases h5 : allR g.sites.length (fun k => underB sig g (g.sites.getD k 0) g.nodes.length)
 ·rw [h5] at C2
  have HFF := Lib.hid (show goodG sig g = false from by rw [HGF.out, h5]; rfl)
  clear h5
  go_wp2_with fail
  refine C2.out.mono ?_
  rintro e w6 ⟨rfl, hb6⟩
  have HZ6 := Lib.hid (HZR.out.trans (hb6.mono HZR.out.size))
  go_wp2_with fail
  go_ret
  exact ⟨by rw [HFF.out]; rfl, HZ6.out⟩
 rw [h5] at C2
 have HGE := Lib.hid (show goodG sig g = allR g.inner.length (fun k => linkB g (wiA g k).2) from by rw [HGF.out, h5]; rfl)
 clear h5
 go_wp2_with fail
 refine C2.out.mono ?_
 rintro e w6 ⟨rfl, hb6⟩
 have HB6 := Lib.hid (HBR.out.trans (hb6.mono HBR.out.size))
 have HZ6 := Lib.hid (HZR.out.trans (hb6.mono HZR.out.size))
 have bx6 := HX.out w6 HB6.out
 clear hb6 x0 x1 x2 x3 x4 x5
 obtain ⟨x0, x1, x2, x3, x4, x5⟩ := row6 bx6
 have C3 := Lib.hid (containsFuncGW_any (.slice AI g.inner.length cI) g.inner 146 #[.pointer (some ⟨w.heap.size + 1, 0, none⟩)] (fun k => !linkB g (wiA g k).2) w6 (by omega) (HG.out w6 HZ6.out).i (enter_of Tryz.func146 (by kernel_rfl) (by kernel_rfl)) (fun q y W hq hW => by
  have e : y = wiA g q := by simp [wiA, List.getD, hq]
  rw [← e]
  exact isBig3_any g _ _ _ _ y (w.heap.size + 1) W HSM.out (HG.out W (HZ6.out.trans (hW.mono HZ6.out.size))) (HX.out W (HB6.out.trans (hW.mono HB6.out.size)))))
 rw [any_notG] at C3
 clear bx6
 go_wp2_with fail
 refine C3.out.mono ?_
 rintro e w7 ⟨rfl, hb7⟩
 have HZ7 := Lib.hid (HZ6.out.trans (hb7.mono HZ6.out.size))
 go_wp2_with fail
 go_ret
 exact ⟨by rw [HGE.out]; simp, HZ7.out⟩

end Go.Proofs.YtijkdpdmclkmlaaGreatDoor

namespace Go.Proofs.YtijkdpdmclkmlaaGreatDoor
open Go.RowKit
theorem el_intG : El Tryz.prog 28 3 1 8 := El.mk' Tryz.underlying28 (by kernel_rfl : _ = some (some (.int .i64 0), 1, 8)) rfl (by decide)
theorem none_row {w : World} {B : Nat} {e : TypeId} {s : Nat} : w.ownsRow B e s (.slice none 0 0) 0 [] := ⟨by simp, .inl ⟨rfl, rfl⟩⟩
theorem ints_app (l : List Int) (x : Int) : ints (l ++ [x]) = ints l ++ [.int .i64 x] := by simp [ints]

end Go.Proofs.YtijkdpdmclkmlaaGreatDoor
