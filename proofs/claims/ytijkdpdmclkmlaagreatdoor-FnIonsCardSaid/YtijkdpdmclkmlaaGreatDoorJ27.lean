/- The tests of kinds, both packages walked. -/
import Derived.Test.YtijkdpdmclkmlaaGreatDoorProg
import Derived.Test.YtijkdpdmclkmlaaGreatDoorJ0
import Derived.Test.YtijkdpdmclkmlaaGreatDoorJ24
import Derived.Test.YtijkdpdmclkmlaaGreatDoorJ15
import Derived.Test.YtijkdpdmclkmlaaGreatDoorJ8
import Derived.Test.YtijkdpdmclkmlaaGreatDoorJ1
import Derived.BigQuiet
import Derived.Test.YtijkdpdmclkmlaaGreatDoorJ26
import Derived.Test.YtijkdpdmclkmlaaGreatDoorJ21
import Derived.Test.YtijkdpdmclkmlaaGreatDoorJ3
import Derived.Test.YtijkdpdmclkmlaaGreatDoorJ16
import Derived.Test.YtijkdpdmclkmlaaGreatDoorJ17
import Derived.Test.YtijkdpdmclkmlaaGreatDoorJ10
set_option linter.unusedSimpArgs false
set_option linter.unusedVariables false
set_option maxRecDepth 100000
set_option maxHeartbeats 16000000
namespace Go.Proofs.YtijkdpdmclkmlaaGreatDoor
open Go.RowKit
theorem implIsWiring_any (sig : List Ct) (g : Gr) (nv sv ov iv gv : Value) (w : World) (hs : SmallG g) (hz : SmallS sig) (hcap : CapOk gv) (hS : RSl RCt 3 w gv sig) (hG : RGr w nv sv ov iv g) :
  Calls Tryz.prog 46 #[gv, .agg #[.int .i64 g.roots, nv, sv, .int .i64 g.edges, ov, iv]] w fun e w' => e = .returned (.bool (wirR sig g)) ∧ Below w.heap.size w w' := by
 have HG := Lib.hid (show ∀ W, Below w.heap.size w W → RGr W nv sv ov iv g from fun W hb => hG.below hb)
 have HS := Lib.hid (show ∀ W, Below w.heap.size w W → RSl RCt 3 W gv sig from fun W hb => hS.below RCt_keep hb)
 have HSM := Lib.hid hs
 obtain ⟨AN, cN, AS, cS, AO, cO, AI, cI, rfl, rfl, rfl, rfl⟩ := hG.form
 obtain ⟨AG, cG, rfl, _⟩ := hS.form
 obtain ⟨w0, hw0, hb0, hsz0, bx0⟩ := laid1 w (.cells #[.int .i64 g.roots, .slice AN g.nodes.length cN, .slice AS g.sites.length cS, .int .i64 g.edges, .slice AO g.outer.length cO, .slice AI g.inner.length cI] 31)
 have HX := Lib.hid (keepB bx0)
 have HB0 := Lib.hid hb0
 have HW0 := Lib.hid hw0
 have H1 := Lib.hid (isBigraph_any sig g _ _ _ _ _ w0 hs hz hcap (HS.out w0 hb0) (HG.out w0 hb0))
 obtain ⟨x0, x1, x2, x3, x4, x5⟩ := row6 bx0
 rw [hw0] at x0 x1 x2 x3 x4 x5
 clear hs hG hb0 bx0 hw0 hS hz hcap
 cases c0 : (goodG sig g)
 ·have HE := Lib.hid (show wirR sig g = false from by rw [wirR_alt, c0]; first | done | rfl)
  rw [c0] at H1
  go_enter Tryz.func46, Tryz.ntmps46
  go_wp2_with fail
  rw [← HW0.out]
  (with_reducible refine H1.out.mono ?_)
  rintro e w1 ⟨rfl, hb⟩
  have HW1 := Lib.hid hb
  have HZ1 := Lib.hid (HB0.out.trans (hb.mono HB0.out.size))
  clear hb x0 x1 x2 x3 x4 x5
  go_wp2_with fail
  go_ret
  exact ⟨by first | rfl | (rw [HE.out]; done) | (rw [HE.out]; rfl), HZ1.out⟩
 have HGP := Lib.hid ((good_iff sig g).1 c0)
 cases c1 : (g.roots == 0)
 ·have HE := Lib.hid (show wirR sig g = false from by rw [wirR_alt, c0, c1]; first | done | rfl)
  rw [c0] at H1
  go_enter Tryz.func46, Tryz.ntmps46
  go_wp2_with fail
  rw [← HW0.out]
  (with_reducible refine H1.out.mono ?_)
  rintro e w1 ⟨rfl, hb⟩
  have HW1 := Lib.hid hb
  have HZ1 := Lib.hid (HB0.out.trans (hb.mono HB0.out.size))
  clear hb x0 x1 x2 x3 x4 x5
  have bxr := HX.out w1 HW1.out
  obtain ⟨x0, x1, x2, x3, x4, x5⟩ := row6 bxr
  clear bxr
  go_wp2_with fail
  go_ret
  exact ⟨by first | rfl | (rw [HE.out]; done) | (rw [HE.out]; rfl), HZ1.out⟩
 have HE := Lib.hid (show wirR sig g = true from by rw [wirR_alt, c0, c1]; first | done | rfl)
 rw [c0] at H1
 go_enter Tryz.func46, Tryz.ntmps46
 go_wp2_with fail
 rw [← HW0.out]
 (with_reducible refine H1.out.mono ?_)
 rintro e w1 ⟨rfl, hb⟩
 have HW1 := Lib.hid hb
 have HZ1 := Lib.hid (HB0.out.trans (hb.mono HB0.out.size))
 clear hb x0 x1 x2 x3 x4 x5
 have bxr := HX.out w1 HW1.out
 obtain ⟨x0, x1, x2, x3, x4, x5⟩ := row6 bxr
 clear bxr
 go_wp2_with fail
 go_ret
 exact ⟨by first | rfl | (rw [HE.out]; done) | (rw [HE.out]; rfl), HZ1.out⟩

theorem implIsSubstitution_any (sig : List Ct) (g : Gr) (nv sv ov iv gv : Value) (w : World) (hs : SmallG g) (hz : SmallS sig) (hcap : CapOk gv) (hS : RSl RCt 3 w gv sig) (hG : RGr w nv sv ov iv g) :
  Calls Tryz.prog 45 #[gv, .agg #[.int .i64 g.roots, nv, sv, .int .i64 g.edges, ov, iv]] w fun e w' => e = .returned (.bool (openR sig g)) ∧ Below w.heap.size w w' := by
 have HG := Lib.hid (show ∀ W, Below w.heap.size w W → RGr W nv sv ov iv g from fun W hb => hG.below hb)
 have HS := Lib.hid (show ∀ W, Below w.heap.size w W → RSl RCt 3 W gv sig from fun W hb => hS.below RCt_keep hb)
 have HSM := Lib.hid hs
 obtain ⟨AN, cN, AS, cS, AO, cO, AI, cI, rfl, rfl, rfl, rfl⟩ := hG.form
 obtain ⟨AG, cG, rfl, _⟩ := hS.form
 obtain ⟨w0, hw0, hb0, hsz0, bx0⟩ := laid1 w (.cells #[.int .i64 g.roots, .slice AN g.nodes.length cN, .slice AS g.sites.length cS, .int .i64 g.edges, .slice AO g.outer.length cO, .slice AI g.inner.length cI] 31)
 have HX := Lib.hid (keepB bx0)
 have HB0 := Lib.hid hb0
 have HW0 := Lib.hid hw0
 have H1 := Lib.hid (implIsWiring_any sig g _ _ _ _ _ w0 hs hz hcap (HS.out w0 hb0) (HG.out w0 hb0))
 obtain ⟨x0, x1, x2, x3, x4, x5⟩ := row6 bx0
 rw [hw0] at x0 x1 x2 x3 x4 x5
 clear hs hG hb0 bx0 hw0 hS hz hcap
 cases c0 : (wirR sig g)
 ·have HE := Lib.hid (show openR sig g = false from by rw [openR_eq, c0]; first | done | rfl)
  rw [c0] at H1
  go_enter Tryz.func45, Tryz.ntmps45
  go_wp2_with fail
  rw [← HW0.out]
  (with_reducible refine H1.out.mono ?_)
  rintro e w1 ⟨rfl, hb⟩
  have HW1 := Lib.hid hb
  have HZ1 := Lib.hid (HB0.out.trans (hb.mono HB0.out.size))
  clear hb x0 x1 x2 x3 x4 x5
  go_wp2_with fail
  go_ret
  exact ⟨by first | rfl | (rw [HE.out]; done) | (rw [HE.out]; rfl), HZ1.out⟩
 cases c1 : (g.edges == 0)
 ·have HE := Lib.hid (show openR sig g = false from by rw [openR_eq, c0, c1]; first | done | rfl)
  rw [c0] at H1
  go_enter Tryz.func45, Tryz.ntmps45
  go_wp2_with fail
  rw [← HW0.out]
  (with_reducible refine H1.out.mono ?_)
  rintro e w1 ⟨rfl, hb⟩
  have HW1 := Lib.hid hb
  have HZ1 := Lib.hid (HB0.out.trans (hb.mono HB0.out.size))
  clear hb x0 x1 x2 x3 x4 x5
  have bxr := HX.out w1 HW1.out
  obtain ⟨x0, x1, x2, x3, x4, x5⟩ := row6 bxr
  clear bxr
  go_wp2_with fail
  go_ret
  exact ⟨by first | rfl | (rw [HE.out]; done) | (rw [HE.out]; rfl), HZ1.out⟩
 have HE := Lib.hid (show openR sig g = true from by rw [openR_eq, c0, c1]; first | done | rfl)
 rw [c0] at H1
 go_enter Tryz.func45, Tryz.ntmps45
 go_wp2_with fail
 rw [← HW0.out]
 (with_reducible refine H1.out.mono ?_)
 rintro e w1 ⟨rfl, hb⟩
 have HW1 := Lib.hid hb
 have HZ1 := Lib.hid (HB0.out.trans (hb.mono HB0.out.size))
 clear hb x0 x1 x2 x3 x4 x5
 have bxr := HX.out w1 HW1.out
 obtain ⟨x0, x1, x2, x3, x4, x5⟩ := row6 bxr
 clear bxr
 go_wp2_with fail
 go_ret
 exact ⟨by first | rfl | (rw [HE.out]; done) | (rw [HE.out]; rfl), HZ1.out⟩

theorem implIsPrime_any (sig : List Ct) (g : Gr) (nv sv ov iv gv : Value) (w : World) (hs : SmallG g) (hz : SmallS sig) (hcap : CapOk gv) (hS : RSl RCt 3 w gv sig) (hG : RGr w nv sv ov iv g) :
  Calls Tryz.prog 30 #[gv, .agg #[.int .i64 g.roots, nv, sv, .int .i64 g.edges, ov, iv]] w fun e w' => e = .returned (.bool (primR sig g)) ∧ Below w.heap.size w w' := by
 have HG := Lib.hid (show ∀ W, Below w.heap.size w W → RGr W nv sv ov iv g from fun W hb => hG.below hb)
 have HS := Lib.hid (show ∀ W, Below w.heap.size w W → RSl RCt 3 W gv sig from fun W hb => hS.below RCt_keep hb)
 have HSM := Lib.hid hs
 obtain ⟨AN, cN, AS, cS, AO, cO, AI, cI, rfl, rfl, rfl, rfl⟩ := hG.form
 obtain ⟨AG, cG, rfl, _⟩ := hS.form
 obtain ⟨w0, hw0, hb0, hsz0, bx0⟩ := laid1 w (.cells #[.int .i64 g.roots, .slice AN g.nodes.length cN, .slice AS g.sites.length cS, .int .i64 g.edges, .slice AO g.outer.length cO, .slice AI g.inner.length cI] 31)
 have HX := Lib.hid (keepB bx0)
 have HB0 := Lib.hid hb0
 have HW0 := Lib.hid hw0
 have H1 := Lib.hid (isBigraph_any sig g _ _ _ _ _ w0 hs hz hcap (HS.out w0 hb0) (HG.out w0 hb0))
 obtain ⟨x0, x1, x2, x3, x4, x5⟩ := row6 bx0
 rw [hw0] at x0 x1 x2 x3 x4 x5
 clear hs hG hb0 bx0 hw0 hS hz hcap
 cases c0 : (goodG sig g)
 ·have HE := Lib.hid (show primR sig g = false from by rw [primR_eq, c0]; first | done | rfl)
  rw [c0] at H1
  go_enter Tryz.func30, Tryz.ntmps30
  go_wp2_with fail
  rw [← HW0.out]
  (with_reducible refine H1.out.mono ?_)
  rintro e w1 ⟨rfl, hb⟩
  have HW1 := Lib.hid hb
  have HZ1 := Lib.hid (HB0.out.trans (hb.mono HB0.out.size))
  clear hb x0 x1 x2 x3 x4 x5
  go_wp2_with fail
  go_ret
  exact ⟨by first | rfl | (rw [HE.out]; done) | (rw [HE.out]; rfl), HZ1.out⟩
 have HGP := Lib.hid ((good_iff sig g).1 c0)
 cases c1 : (g.roots == 1)
 ·have HE := Lib.hid (show primR sig g = false from by rw [primR_eq, c0, c1]; first | done | rfl)
  rw [c0] at H1
  go_enter Tryz.func30, Tryz.ntmps30
  go_wp2_with fail
  rw [← HW0.out]
  (with_reducible refine H1.out.mono ?_)
  rintro e w1 ⟨rfl, hb⟩
  have HW1 := Lib.hid hb
  have HZ1 := Lib.hid (HB0.out.trans (hb.mono HB0.out.size))
  clear hb x0 x1 x2 x3 x4 x5
  have bxr := HX.out w1 HW1.out
  obtain ⟨x0, x1, x2, x3, x4, x5⟩ := row6 bxr
  clear bxr
  go_wp2_with fail
  go_ret
  exact ⟨by first | rfl | (rw [HE.out]; done) | (rw [HE.out]; rfl), HZ1.out⟩
 cases c2 : ((g.inner.length : Int) == 0)
 ·have HE := Lib.hid (show primR sig g = false from by rw [primR_eq, c0, c1, c2]; first | done | rfl)
  rw [c0] at H1
  go_enter Tryz.func30, Tryz.ntmps30
  go_wp2_with fail
  rw [← HW0.out]
  (with_reducible refine H1.out.mono ?_)
  rintro e w1 ⟨rfl, hb⟩
  have HW1 := Lib.hid hb
  have HZ1 := Lib.hid (HB0.out.trans (hb.mono HB0.out.size))
  clear hb x0 x1 x2 x3 x4 x5
  have bxr := HX.out w1 HW1.out
  obtain ⟨x0, x1, x2, x3, x4, x5⟩ := row6 bxr
  clear bxr
  go_wp2_with fail
  go_ret
  exact ⟨by first | rfl | (rw [HE.out]; done) | (rw [HE.out]; rfl), HZ1.out⟩
 have HE := Lib.hid (show primR sig g = true from by rw [primR_eq, c0, c1, c2]; first | done | rfl)
 rw [c0] at H1
 go_enter Tryz.func30, Tryz.ntmps30
 go_wp2_with fail
 rw [← HW0.out]
 (with_reducible refine H1.out.mono ?_)
 rintro e w1 ⟨rfl, hb⟩
 have HW1 := Lib.hid hb
 have HZ1 := Lib.hid (HB0.out.trans (hb.mono HB0.out.size))
 clear hb x0 x1 x2 x3 x4 x5
 have bxr := HX.out w1 HW1.out
 obtain ⟨x0, x1, x2, x3, x4, x5⟩ := row6 bxr
 clear bxr
 go_wp2_with fail
 go_ret
 exact ⟨by first | rfl | (rw [HE.out]; done) | (rw [HE.out]; rfl), HZ1.out⟩

theorem implIsLean_any (sig : List Ct) (g : Gr) (nv sv ov iv gv : Value) (w : World) (hs : SmallG g) (hz : SmallS sig) (hcap : CapOk gv) (hS : RSl RCt 3 w gv sig) (hG : RGr w nv sv ov iv g) :
  Calls Tryz.prog 47 #[gv, .agg #[.int .i64 g.roots, nv, sv, .int .i64 g.edges, ov, iv]] w fun e w' => e = .returned (.bool (leanR sig g)) ∧ Below w.heap.size w w' := by
 have HG := Lib.hid (show ∀ W, Below w.heap.size w W → RGr W nv sv ov iv g from fun W hb => hG.below hb)
 have HS := Lib.hid (show ∀ W, Below w.heap.size w W → RSl RCt 3 W gv sig from fun W hb => hS.below RCt_keep hb)
 have HSM := Lib.hid hs
 obtain ⟨AN, cN, AS, cS, AO, cO, AI, cI, rfl, rfl, rfl, rfl⟩ := hG.form
 obtain ⟨AG, cG, rfl, _⟩ := hS.form
 obtain ⟨w0, hw0, hb0, hsz0, bx0⟩ := laid1 w (.cells #[.int .i64 g.roots, .slice AN g.nodes.length cN, .slice AS g.sites.length cS, .int .i64 g.edges, .slice AO g.outer.length cO, .slice AI g.inner.length cI] 31)
 have HX := Lib.hid (keepB bx0)
 have HB0 := Lib.hid hb0
 have HW0 := Lib.hid hw0
 have H1 := Lib.hid (isBigraph_any sig g _ _ _ _ _ w0 hs hz hcap (HS.out w0 hb0) (HG.out w0 hb0))
 have hed := hs.edges
 have HPT := Lib.hid (show leanB g = allR g.edges.toNat (fun l => !idleB g (l : Int)) from rfl)
 obtain ⟨x0, x1, x2, x3, x4, x5⟩ := row6 bx0
 rw [hw0] at x0 x1 x2 x3 x4 x5
 clear hs hG hb0 bx0 hw0 hS hz hcap
 cases c0 : goodG sig g
 ·have HE := Lib.hid (show leanR sig g = false from by rw [leanR_eq, c0]; rfl)
  rw [c0] at H1
  go_enter Tryz.func47, Tryz.ntmps47
  go_wp2_with fail
  rw [← HW0.out]
  (with_reducible refine H1.out.mono ?_)
  rintro e w1 ⟨rfl, hb⟩
  have HZ1 := Lib.hid (HB0.out.trans (hb.mono HB0.out.size))
  clear hb x0 x1 x2 x3 x4 x5
  go_wp2_with fail
  go_ret
  exact ⟨by first | rfl | (rw [HE.out]; done) | (rw [HE.out]; rfl), HZ1.out⟩
 have HLE := Lib.hid (show leanR sig g = leanB g from by rw [leanR_eq, c0]; rfl)
 rw [c0] at H1
 clear c0
 go_enter Tryz.func47, Tryz.ntmps47
 go_wp2_with fail
 rw [← HW0.out]
 (with_reducible refine H1.out.mono ?_)
 rintro e w1 ⟨rfl, hb⟩
 have HW1 := Lib.hid hb
 clear x0 x1 x2 x3 x4 x5
 have bxr := HX.out w1 hb
 obtain ⟨x0, x1, x2, x3, x4, x5⟩ := row6 bxr
 clear bxr hb
 go_wp2_with fail
 clear x0 x1 x2 x3 x4 x5
 go_loopw [12] (fun i wr => ∃ k : Nat, k ≤ g.edges.toNat ∧ i = .int .i64 k ∧ (∀ j, j < k → (!idleB g (j : Int)) = true) ∧ Below w0.heap.size w0 wr)
  (fun i _ => g.edges.toNat - (intOf i).toNat)
 case atStart => exact ⟨0, Nat.zero_le _, rfl, fun j hj => by omega, HW1.out⟩
 obtain ⟨k, hk, rfl, hall, hbel⟩ := hrel
 have HALL := Lib.hid hall
 have HBE := Lib.hid hbel
 have HZ := Lib.hid (HB0.out.trans (hbel.mono HB0.out.size))
 have bxr := HX.out wr hbel
 clear hall hbel
 obtain ⟨x0, x1, x2, x3, x4, x5⟩ := row6 bxr
 by_cases hlt : (k : Int) < g.edges
 ·have HC := Lib.hid (isIdle_any g _ _ _ _ (k : Int) wr HSM.out (HG.out wr HZ.out))
  have HF := Lib.hid (show idleB g (k : Int) = true → leanB g = false from fun h => by rw [HPT.out]; exact allR_false (show k < g.edges.toNat by omega) (by rw [h]; rfl))
  have HN := Lib.hid (show idleB g (k : Int) = false → ∀ j, j < k + 1 → (!idleB g (j : Int)) = true from fun h j hj => by
   rcases Nat.lt_succ_iff_lt_or_eq.1 hj with h' | h'
   ·exact HALL.out j h'
   rw [h', h]; rfl)
  clear bxr
  cases hm : idleB g (k : Int)
  ·rw [hm] at HC
   have HNN := Lib.hid (HN.out hm)
   clear hm
   go_wp2_with fail
   (with_reducible refine HC.out.mono ?_)
   rintro e w1 ⟨rfl, hb1⟩
   have HB1 := Lib.hid (HBE.out.trans (hb1.mono HBE.out.size))
   clear hb1 x0 x1 x2 x3 x4 x5
   go_wp2_with fail
   go_roundw
   case rel => exact ⟨k + 1, by omega, by go_num, HNN.out, HB1.out⟩
   case measure => simp [intOf]; omega
  rw [hm] at HC
  have HFF := Lib.hid (HF.out hm)
  clear hm
  go_wp2_with fail
  (with_reducible refine HC.out.mono ?_)
  rintro e w1 ⟨rfl, hb1⟩
  have HZ1 := Lib.hid (HZ.out.trans (hb1.mono HZ.out.size))
  clear hb1 x0 x1 x2 x3 x4 x5
  go_wp2_with fail
  go_ret
  exact ⟨by rw [HLE.out, HFF.out]; rfl, HZ1.out⟩
 have HE := Lib.hid (show leanB g = true from by rw [HPT.out]; exact allR_true (fun j hj => HALL.out j (by omega)))
 clear bxr
 go_wp2_with fail
 go_ret
 exact ⟨by rw [HLE.out, HE.out]; rfl, HZ.out⟩

theorem isGuard1_any (x : Int) (w : World) : Calls Tryz.prog 128 (#[.int .i64 x] ++ #[]) w fun e w' => e = .returned (.bool (!decide (0 ≤ x))) ∧ Below w.heap.size w w' := by
 by_cases h : x < 0
 ·have HE := Lib.hid (show (!decide (0 ≤ x)) = true from by rw [decide_eq_false (by omega)]; rfl)
  go_enter Tryz.func128, Tryz.ntmps128
  go_wp2_with fail
  go_ret
  exact ⟨by first | rfl | (rw [HE.out]; done) | (rw [HE.out]; rfl), Below.refl _ _⟩
 have HE := Lib.hid (show (!decide (0 ≤ x)) = false from by rw [decide_eq_true (by omega)]; rfl)
 go_enter Tryz.func128, Tryz.ntmps128
 go_wp2_with fail
 go_ret
 exact ⟨by first | rfl | (rw [HE.out]; done) | (rw [HE.out]; rfl), Below.refl _ _⟩

theorem isGuard2_any (x : Wi) (e3 : Int) (pb : Nat) (w : World) (hc : w.cell? ⟨pb, 3, none⟩ = some (.int .i64 e3)) : Calls Tryz.prog 130 (#[.agg #[.string x.1, .int .i64 x.2]] ++ #[.pointer (some ⟨pb, 0, none⟩)]) w fun e w' => e = .returned (.bool (!decide (x.2 < e3))) ∧ Below w.heap.size w w' := by
 have hb0 : Below w.heap.size w (w.alloc (.cells #[.string x.1, .int .i64 x.2] 90)) := (Below.refl _ _).alloc (Nat.le_refl _) _
 have hc2 := cell_below hb0 hc (lt_of_cell hc)
 have HB := Lib.hid hb0
 have y0 := cell_of_row _ _ 0 _ _ _ (heap_alloc_new w (.cells #[.string x.1, .int .i64 x.2] 90))
 have y1 := cell_of_row _ _ 1 _ _ _ (heap_alloc_new w (.cells #[.string x.1, .int .i64 x.2] 90))
 clear hb0
 by_cases h : x.2 < e3
 ·have HE := Lib.hid (show (!decide (x.2 < e3)) = false from by rw [decide_eq_true h]; rfl)
  have h2 : ¬ e3 ≤ x.2 := by omega
  go_enter Tryz.func130, Tryz.ntmps130
  go_wp2_with fail
  go_ret
  exact ⟨by first | rfl | (rw [HE.out]; done) | (rw [HE.out]; rfl), HB.out⟩
 have HE := Lib.hid (show (!decide (x.2 < e3)) = true from by rw [decide_eq_false h]; rfl)
 have h2 : e3 ≤ x.2 := by omega
 go_enter Tryz.func130, Tryz.ntmps130
 go_wp2_with fail
 go_ret
 exact ⟨by first | rfl | (rw [HE.out]; done) | (rw [HE.out]; rfl), HB.out⟩

theorem implIsGuarding_any (sig : List Ct) (g : Gr) (nv sv ov iv gv : Value) (w : World) (hs : SmallG g) (hz : SmallS sig) (hcap : CapOk gv) (hS : RSl RCt 3 w gv sig) (hG : RGr w nv sv ov iv g) :
  Calls Tryz.prog 49 #[gv, .agg #[.int .i64 g.roots, nv, sv, .int .i64 g.edges, ov, iv]] w fun e w' => e = .returned (.bool (guardR sig g)) ∧ Below w.heap.size w w' := by
 have HG := Lib.hid (show ∀ W, Below w.heap.size w W → RGr W nv sv ov iv g from fun W hb => hG.below hb)
 have HS := Lib.hid (show ∀ W, Below w.heap.size w W → RSl RCt 3 W gv sig from fun W hb => hS.below RCt_keep hb)
 have HSM := Lib.hid hs
 obtain ⟨AN, cN, AS, cS, AO, cO, AI, cI, rfl, rfl, rfl, rfl⟩ := hG.form
 obtain ⟨AG, cG, rfl, _⟩ := hS.form
 obtain ⟨w0, hw0, hb0, hsz0, bx0⟩ := laid1 w (.cells #[.int .i64 g.roots, .slice AN g.nodes.length cN, .slice AS g.sites.length cS, .int .i64 g.edges, .slice AO g.outer.length cO, .slice AI g.inner.length cI] 31)
 have HX := Lib.hid (keepB bx0)
 have HB0 := Lib.hid hb0
 have HW0 := Lib.hid hw0
 have H1 := Lib.hid (isBigraph_any sig g _ _ _ _ _ w0 hs hz hcap (HS.out w0 hb0) (HG.out w0 hb0))
 obtain ⟨x0, x1, x2, x3, x4, x5⟩ := row6 bx0
 rw [hw0] at x0 x1 x2 x3 x4 x5
 clear hs hG hb0 bx0 hw0 hS hz hcap
 cases c0 : (goodG sig g)
 ·have HE := Lib.hid (show guardR sig g = false from by rw [guardR_alt, c0]; first | done | rfl)
  rw [c0] at H1
  go_enter Tryz.func49, Tryz.ntmps49
  go_wp2_with fail
  rw [← HW0.out]
  (with_reducible refine H1.out.mono ?_)
  rintro e w1 ⟨rfl, hb⟩
  have HW1 := Lib.hid hb
  have HZ1 := Lib.hid (HB0.out.trans (hb.mono HB0.out.size))
  clear hb x0 x1 x2 x3 x4 x5
  go_wp2_with fail
  go_ret
  exact ⟨by first | rfl | (rw [HE.out]; done) | (rw [HE.out]; rfl), HZ1.out⟩
 have HGP := Lib.hid ((good_iff sig g).1 c0)
 cases c1 : (anyR g.sites.length fun k => !decide (0 ≤ g.sites.getD k 0))
 ·cases c2 : (anyR g.inner.length fun k => !decide ((wiA g k).2 < g.edges))
  ·have HE := Lib.hid (show guardR sig g = true from by rw [guardR_alt, c0, c1, c2]; first | done | rfl)
   rw [c0] at H1
   go_enter Tryz.func49, Tryz.ntmps49
   go_wp2_with fail
   rw [← HW0.out]
   (with_reducible refine H1.out.mono ?_)
   rintro e w1 ⟨rfl, hb⟩
   have HW1 := Lib.hid hb
   have HZ1 := Lib.hid (HB0.out.trans (hb.mono HB0.out.size))
   clear hb x0 x1 x2 x3 x4 x5
   have bxr := HX.out w1 HW1.out
   obtain ⟨x0, x1, x2, x3, x4, x5⟩ := row6 bxr
   clear bxr
   have HC1 := Lib.hid (show Calls Tryz.prog 127 #[.slice AS g.sites.length cS, .func (.func 128) #[] #[]] w1 _ from containsFuncGI_any AS cS g.sites 128 #[] (fun k => !decide (0 ≤ g.sites.getD k 0)) w1 (Nat.le_trans HSM.out.sites (by decide)) (by obtain ⟨A', c', e, hc⟩ := (HG.out w1 HZ1.out).s; cases e; exact hc) (enter_of Tryz.func128 (by kernel_rfl) (by kernel_rfl)) (fun k x W hk hb => by have hx : g.sites.getD k 0 = x := getD_some hk; rw [hx]; exact isGuard1_any x W))
   rw [c1] at HC1
   go_wp2_with fail
   (with_reducible refine HC1.out.mono ?_)
   rintro e w2 ⟨rfl, hb⟩
   have HW2 := Lib.hid (HW1.out.trans (hb.mono HW1.out.size))
   have HZ2 := Lib.hid (HZ1.out.trans (hb.mono HZ1.out.size))
   clear hb x0 x1 x2 x3 x4 x5
   have bxr := HX.out w2 HW2.out
   obtain ⟨x0, x1, x2, x3, x4, x5⟩ := row6 bxr
   clear bxr
   have HC2 := Lib.hid (show Calls Tryz.prog 129 #[.slice AI g.inner.length cI, .func (.func 130) #[] #[.pointer (some ⟨w.heap.size, 0, none⟩)]] w2 _ from containsFuncGW_any (.slice AI g.inner.length cI) g.inner 130 #[.pointer (some ⟨w.heap.size, 0, none⟩)] (fun k => !decide ((wiA g k).2 < g.edges)) w2 (Nat.le_trans HSM.out.inner (by decide)) (HG.out w2 HZ2.out).i (enter_of Tryz.func130 (by kernel_rfl) (by kernel_rfl)) (fun k x W hk hb => by have hx : wiA g k = x := getD_some hk; rw [hx]; exact isGuard2_any x g.edges _ W (cell_of_row _ _ 3 _ _ _ (HX.out W (HW2.out.trans (hb.mono HW2.out.size))))))
   rw [c2] at HC2
   go_wp2_with fail
   (with_reducible refine HC2.out.mono ?_)
   rintro e w3 ⟨rfl, hb⟩
   have HW3 := Lib.hid (HW2.out.trans (hb.mono HW2.out.size))
   have HZ3 := Lib.hid (HZ2.out.trans (hb.mono HZ2.out.size))
   clear hb x0 x1 x2 x3 x4 x5
   go_wp2_with fail
   go_ret
   exact ⟨by first | rfl | (rw [HE.out]; done) | (rw [HE.out]; rfl), HZ3.out⟩
  have HE := Lib.hid (show guardR sig g = false from by rw [guardR_alt, c0, c1, c2]; first | done | rfl)
  rw [c0] at H1
  go_enter Tryz.func49, Tryz.ntmps49
  go_wp2_with fail
  rw [← HW0.out]
  (with_reducible refine H1.out.mono ?_)
  rintro e w1 ⟨rfl, hb⟩
  have HW1 := Lib.hid hb
  have HZ1 := Lib.hid (HB0.out.trans (hb.mono HB0.out.size))
  clear hb x0 x1 x2 x3 x4 x5
  have bxr := HX.out w1 HW1.out
  obtain ⟨x0, x1, x2, x3, x4, x5⟩ := row6 bxr
  clear bxr
  have HC1 := Lib.hid (show Calls Tryz.prog 127 #[.slice AS g.sites.length cS, .func (.func 128) #[] #[]] w1 _ from containsFuncGI_any AS cS g.sites 128 #[] (fun k => !decide (0 ≤ g.sites.getD k 0)) w1 (Nat.le_trans HSM.out.sites (by decide)) (by obtain ⟨A', c', e, hc⟩ := (HG.out w1 HZ1.out).s; cases e; exact hc) (enter_of Tryz.func128 (by kernel_rfl) (by kernel_rfl)) (fun k x W hk hb => by have hx : g.sites.getD k 0 = x := getD_some hk; rw [hx]; exact isGuard1_any x W))
  rw [c1] at HC1
  go_wp2_with fail
  (with_reducible refine HC1.out.mono ?_)
  rintro e w2 ⟨rfl, hb⟩
  have HW2 := Lib.hid (HW1.out.trans (hb.mono HW1.out.size))
  have HZ2 := Lib.hid (HZ1.out.trans (hb.mono HZ1.out.size))
  clear hb x0 x1 x2 x3 x4 x5
  have bxr := HX.out w2 HW2.out
  obtain ⟨x0, x1, x2, x3, x4, x5⟩ := row6 bxr
  clear bxr
  have HC2 := Lib.hid (show Calls Tryz.prog 129 #[.slice AI g.inner.length cI, .func (.func 130) #[] #[.pointer (some ⟨w.heap.size, 0, none⟩)]] w2 _ from containsFuncGW_any (.slice AI g.inner.length cI) g.inner 130 #[.pointer (some ⟨w.heap.size, 0, none⟩)] (fun k => !decide ((wiA g k).2 < g.edges)) w2 (Nat.le_trans HSM.out.inner (by decide)) (HG.out w2 HZ2.out).i (enter_of Tryz.func130 (by kernel_rfl) (by kernel_rfl)) (fun k x W hk hb => by have hx : wiA g k = x := getD_some hk; rw [hx]; exact isGuard2_any x g.edges _ W (cell_of_row _ _ 3 _ _ _ (HX.out W (HW2.out.trans (hb.mono HW2.out.size))))))
  rw [c2] at HC2
  go_wp2_with fail
  (with_reducible refine HC2.out.mono ?_)
  rintro e w3 ⟨rfl, hb⟩
  have HW3 := Lib.hid (HW2.out.trans (hb.mono HW2.out.size))
  have HZ3 := Lib.hid (HZ2.out.trans (hb.mono HZ2.out.size))
  clear hb x0 x1 x2 x3 x4 x5
  go_wp2_with fail
  go_ret
  exact ⟨by first | rfl | (rw [HE.out]; done) | (rw [HE.out]; rfl), HZ3.out⟩
 have HE := Lib.hid (show guardR sig g = false from by rw [guardR_alt, c0, c1]; first | done | rfl)
 rw [c0] at H1
 go_enter Tryz.func49, Tryz.ntmps49
 go_wp2_with fail
 rw [← HW0.out]
 (with_reducible refine H1.out.mono ?_)
 rintro e w1 ⟨rfl, hb⟩
 have HW1 := Lib.hid hb
 have HZ1 := Lib.hid (HB0.out.trans (hb.mono HB0.out.size))
 clear hb x0 x1 x2 x3 x4 x5
 have bxr := HX.out w1 HW1.out
 obtain ⟨x0, x1, x2, x3, x4, x5⟩ := row6 bxr
 clear bxr
 have HC1 := Lib.hid (show Calls Tryz.prog 127 #[.slice AS g.sites.length cS, .func (.func 128) #[] #[]] w1 _ from containsFuncGI_any AS cS g.sites 128 #[] (fun k => !decide (0 ≤ g.sites.getD k 0)) w1 (Nat.le_trans HSM.out.sites (by decide)) (by obtain ⟨A', c', e, hc⟩ := (HG.out w1 HZ1.out).s; cases e; exact hc) (enter_of Tryz.func128 (by kernel_rfl) (by kernel_rfl)) (fun k x W hk hb => by have hx : g.sites.getD k 0 = x := getD_some hk; rw [hx]; exact isGuard1_any x W))
 rw [c1] at HC1
 go_wp2_with fail
 (with_reducible refine HC1.out.mono ?_)
 rintro e w2 ⟨rfl, hb⟩
 have HW2 := Lib.hid (HW1.out.trans (hb.mono HW1.out.size))
 have HZ2 := Lib.hid (HZ1.out.trans (hb.mono HZ1.out.size))
 clear hb x0 x1 x2 x3 x4 x5
 go_wp2_with fail
 go_ret
 exact ⟨by first | rfl | (rw [HE.out]; done) | (rw [HE.out]; rfl), HZ2.out⟩

end Go.Proofs.YtijkdpdmclkmlaaGreatDoor
