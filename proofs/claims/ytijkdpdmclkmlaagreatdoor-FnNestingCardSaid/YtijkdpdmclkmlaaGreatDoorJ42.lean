/- The reference's NestBigraphs: walked. -/
import Derived.Test.YtijkdpdmclkmlaaGreatDoorProg
import Derived.Test.YtijkdpdmclkmlaaGreatDoorJ40
import Derived.Test.YtijkdpdmclkmlaaGreatDoorJ41
import Derived.BigQuiet
set_option linter.unusedSimpArgs false
set_option linter.unusedVariables false
set_option maxRecDepth 100000
set_option maxHeartbeats 16000000
namespace Go.Proofs.YtijkdpdmclkmlaaGreatDoor
open Go.RowKit
theorem nest_outs {sig : List Ct} {a b : Gr} (ha : GoodP sig a) (hb : GoodP sig b) (hsa : SmallG a) (hsb : SmallG b) : (sortS (a.outer ++ b.outer)).length ≤ 1000 ∧ ∀ s ∈ sortS (a.outer ++ b.outer), s.size ≤ 1000 := by
 have h5 := names_len ha.on
 have h6 := names_len hb.on
 refine ⟨Nat.le_trans (sortS_len _) (by rw [List.length_append]; omega), fun s hs => ?_⟩
 rcases List.mem_append.1 (sortS_mem.1 hs) with h | h
 ·exact hsa.onames s h
 exact hsb.onames s h

theorem specNestBigraphs_any (sig : List Ct) (a b : Gr) (nva sva ova iva nvb svb ovb ivb : Value) (gv : Value) (w : World) (hsa : SmallG a) (hsb : SmallG b) (hz : SmallS sig) (hS : RSl RCt 3 w gv sig) (hGa : RGr w nva sva ova iva a) (hGb : RGr w nvb svb ovb ivb b) :
  Calls Tryz.prog 74 #[gv, .agg #[.int .i64 a.roots, nva, sva, .int .i64 a.edges, ova, iva], .agg #[.int .i64 b.roots, nvb, svb, .int .i64 b.edges, ovb, ivb]] w fun e w' => ∃ X : BX, e = .returned (.tuple #[.agg X.cells, .bool (nestB sig a b)]) ∧ X.g = (if nestB sig a b then nestG a b (sortS (a.outer ++ b.outer)) else zeroG) ∧ RG w w' X := by
 have HGA := Lib.hid (show ∀ W, Below w.heap.size w W → RGr W nva sva ova iva a from fun W hb => hGa.below hb)
 have HGB := Lib.hid (show ∀ W, Below w.heap.size w W → RGr W nvb svb ovb ivb b from fun W hb => hGb.below hb)
 obtain ⟨ANa, cNa, ASa, cSa, AOa, cOa, AIa, cIa, rfl, rfl, rfl, rfl⟩ := hGa.form
 obtain ⟨ANb, cNb, ASb, cSb, AOb, cOb, AIb, cIb, rfl, rfl, rfl, rfl⟩ := hGb.form
 have HSA := Lib.hid hsa
 have HSB := Lib.hid hsb
 have HSG := Lib.hid (show ∀ W, Below w.heap.size w W → RSl RCt 3 W gv sig from fun W hb => hS.below RCt_keep hb)
 obtain ⟨AG, cG, rfl, _⟩ := hS.form
 have HZS := Lib.hid hz
 obtain ⟨w0, hw0, hb0, hs0, bxa0, bxb0, hR0⟩ := laid3 w (.cells #[.int .i64 a.roots, .slice ANa a.nodes.length cNa, .slice ASa a.sites.length cSa, .int .i64 a.edges, .slice AOa a.outer.length cOa, .slice AIa a.inner.length cIa] 31) (.cells #[.int .i64 b.roots, .slice ANb b.nodes.length cNb, .slice ASb b.sites.length cSb, .int .i64 b.edges, .slice AOb b.outer.length cOb, .slice AIb b.inner.length cIb] 31) (.cells #[.int .i64 0, .slice none 0 0, .slice none 0 0, .int .i64 0, .slice none 0 0, .slice none 0 0] 31)
 have HRR := Lib.hid (keepB hR0)
 have HXA := Lib.hid (keepB bxa0)
 have HXB := Lib.hid (keepB bxb0)
 have HB0 := Lib.hid hb0
 have HW0 := Lib.hid hw0
 have HR0 := Lib.hid hR0
 have HS0 := Lib.hid hs0
 have HZ := Lib.hid (Below.refl w0.heap.size w0)
 obtain ⟨xa0, xa1, xa2, xa3, xa4, xa5⟩ := row6 bxa0
 obtain ⟨xb0, xb1, xb2, xb3, xb4, xb5⟩ := row6 bxb0
 rw [hw0] at xa0 xa1 xa2 xa3 xa4 xa5 xb0 xb1 xb2 xb3 xb4 xb5
 clear hGa hGb hsa hsb hb0 hs0 bxa0 bxb0 hR0 hw0 hS hz
 have HPT := Lib.hid (show nestB sig a b = (goodG sig a && goodG sig b && (a.inner.length == 0) && decide ((a.sites.length : Int) = b.roots) && goodG sig (nestG a b (sortS (a.outer ++ b.outer)))) from rfl)
 cases hga : goodG sig a
 ·have HE := Lib.hid (show nestB sig a b = false from by rw [HPT.out, hga, Bool.false_and, Bool.false_and, Bool.false_and, Bool.false_and])
  rw [HE.out]
  have HGA1 := Lib.hid hga
  clear hga
  go_enter Tryz.func74, Tryz.ntmps74
  have HC := l2Good_any sig a _ _ _ _ _ w0 HSA.out HZS.out (HSG.out w0 (HB0.out.trans (HZ.out.mono HB0.out.size))) (HGA.out w0 (HB0.out.trans (HZ.out.mono HB0.out.size)))
  rw [HGA1.out] at HC
  have HCH := Lib.hid HC
  clear HC
  go_wp2_with fail
  rw [← HW0.out]
  (with_reducible refine HCH.out.mono ?_)
  rintro e w1 ⟨rfl, hb⟩
  have HZ2 := Lib.hid (HZ.out.trans (hb.mono HZ.out.size))
  clear hb HZ HCH
  clear xa0 xa1 xa2 xa3 xa4 xa5 xb0 xb1 xb2 xb3 xb4 xb5
  have HZ := Lib.hid HZ2.out
  clear HZ2
  obtain ⟨xa0, xa1, xa2, xa3, xa4, xa5⟩ := row6 (HXA.out w1 HZ.out)
  obtain ⟨xb0, xb1, xb2, xb3, xb4, xb5⟩ := row6 (HXB.out w1 HZ.out)
  clear xa0 xa1 xa2 xa3 xa4 xa5 xb0 xb1 xb2 xb3 xb4 xb5
  obtain ⟨z0, z1, z2, z3, z4, z5, f0, f1, f2, f3, f4, f5⟩ := row6f (HRR.out w1 HZ.out)
  go_wp2_with fail
  have hsz0 := HS0.out
  have hf := fin6R (X := zeroX) (w.heap.size + 1 + 1) HB0.out (by omega) HR0.out (Kept.of_below HZ.out (fun q => (w.heap.size + 1 + 1) + 1 ≤ q)) (zero_ob _ _)
  (try simp only [Exit.inBlock, Exit.then])
  refine bodyPost_ret (rcell2 rfl _ _ (w.heap.size + 1 + 1) _ _ _ _ rfl hf.1 Tryz.underlying31 rfl (by kernel_rfl)) rfl ?_
  exact ⟨_, rfl, rfl, hf.2⟩
 cases hgb : goodG sig b
 ·have HE := Lib.hid (show nestB sig a b = false from by rw [HPT.out, hga, hgb, Bool.true_and, Bool.false_and, Bool.false_and, Bool.false_and])
  rw [HE.out]
  have HGA1 := Lib.hid hga
  have HGB1 := Lib.hid hgb
  clear hga hgb
  go_enter Tryz.func74, Tryz.ntmps74
  have HC := l2Good_any sig a _ _ _ _ _ w0 HSA.out HZS.out (HSG.out w0 (HB0.out.trans (HZ.out.mono HB0.out.size))) (HGA.out w0 (HB0.out.trans (HZ.out.mono HB0.out.size)))
  rw [HGA1.out] at HC
  have HCH := Lib.hid HC
  clear HC
  go_wp2_with fail
  rw [← HW0.out]
  (with_reducible refine HCH.out.mono ?_)
  rintro e w1 ⟨rfl, hb⟩
  have HZ2 := Lib.hid (HZ.out.trans (hb.mono HZ.out.size))
  clear hb HZ HCH
  clear xa0 xa1 xa2 xa3 xa4 xa5 xb0 xb1 xb2 xb3 xb4 xb5
  have HZ := Lib.hid HZ2.out
  clear HZ2
  obtain ⟨xa0, xa1, xa2, xa3, xa4, xa5⟩ := row6 (HXA.out w1 HZ.out)
  obtain ⟨xb0, xb1, xb2, xb3, xb4, xb5⟩ := row6 (HXB.out w1 HZ.out)
  have HC := l2Good_any sig b _ _ _ _ _ w1 HSB.out HZS.out (HSG.out w1 (HB0.out.trans (HZ.out.mono HB0.out.size))) (HGB.out w1 (HB0.out.trans (HZ.out.mono HB0.out.size)))
  rw [HGB1.out] at HC
  have HCH := Lib.hid HC
  clear HC
  go_wp2_with fail
  (with_reducible refine HCH.out.mono ?_)
  rintro e w2 ⟨rfl, hb⟩
  have HZ2 := Lib.hid (HZ.out.trans (hb.mono HZ.out.size))
  clear hb HZ HCH
  clear xa0 xa1 xa2 xa3 xa4 xa5 xb0 xb1 xb2 xb3 xb4 xb5
  have HZ := Lib.hid HZ2.out
  clear HZ2
  obtain ⟨xa0, xa1, xa2, xa3, xa4, xa5⟩ := row6 (HXA.out w2 HZ.out)
  obtain ⟨xb0, xb1, xb2, xb3, xb4, xb5⟩ := row6 (HXB.out w2 HZ.out)
  clear xa0 xa1 xa2 xa3 xa4 xa5 xb0 xb1 xb2 xb3 xb4 xb5
  obtain ⟨z0, z1, z2, z3, z4, z5, f0, f1, f2, f3, f4, f5⟩ := row6f (HRR.out w2 HZ.out)
  go_wp2_with fail
  have hsz0 := HS0.out
  have hf := fin6R (X := zeroX) (w.heap.size + 1 + 1) HB0.out (by omega) HR0.out (Kept.of_below HZ.out (fun q => (w.heap.size + 1 + 1) + 1 ≤ q)) (zero_ob _ _)
  (try simp only [Exit.inBlock, Exit.then])
  refine bodyPost_ret (rcell2 rfl _ _ (w.heap.size + 1 + 1) _ _ _ _ rfl hf.1 Tryz.underlying31 rfl (by kernel_rfl)) rfl ?_
  exact ⟨_, rfl, rfl, hf.2⟩
 cases hi : (a.inner.length == 0)
 ·have HE := Lib.hid (show nestB sig a b = false from by rw [HPT.out, hga, hgb, hi, Bool.true_and, Bool.true_and, Bool.false_and, Bool.false_and])
  rw [HE.out]
  have HGA1 := Lib.hid hga
  have HGB1 := Lib.hid hgb
  clear hga hgb
  have hi1 : decide (0 < a.inner.length) = true := decide_eq_true (by have := ne_of_beq_false hi; omega)
  clear hi
  go_enter Tryz.func74, Tryz.ntmps74
  have HC := l2Good_any sig a _ _ _ _ _ w0 HSA.out HZS.out (HSG.out w0 (HB0.out.trans (HZ.out.mono HB0.out.size))) (HGA.out w0 (HB0.out.trans (HZ.out.mono HB0.out.size)))
  rw [HGA1.out] at HC
  have HCH := Lib.hid HC
  clear HC
  go_wp2_with fail
  rw [← HW0.out]
  (with_reducible refine HCH.out.mono ?_)
  rintro e w1 ⟨rfl, hb⟩
  have HZ2 := Lib.hid (HZ.out.trans (hb.mono HZ.out.size))
  clear hb HZ HCH
  clear xa0 xa1 xa2 xa3 xa4 xa5 xb0 xb1 xb2 xb3 xb4 xb5
  have HZ := Lib.hid HZ2.out
  clear HZ2
  obtain ⟨xa0, xa1, xa2, xa3, xa4, xa5⟩ := row6 (HXA.out w1 HZ.out)
  obtain ⟨xb0, xb1, xb2, xb3, xb4, xb5⟩ := row6 (HXB.out w1 HZ.out)
  have HC := l2Good_any sig b _ _ _ _ _ w1 HSB.out HZS.out (HSG.out w1 (HB0.out.trans (HZ.out.mono HB0.out.size))) (HGB.out w1 (HB0.out.trans (HZ.out.mono HB0.out.size)))
  rw [HGB1.out] at HC
  have HCH := Lib.hid HC
  clear HC
  go_wp2_with fail
  (with_reducible refine HCH.out.mono ?_)
  rintro e w2 ⟨rfl, hb⟩
  have HZ2 := Lib.hid (HZ.out.trans (hb.mono HZ.out.size))
  clear hb HZ HCH
  clear xa0 xa1 xa2 xa3 xa4 xa5 xb0 xb1 xb2 xb3 xb4 xb5
  have HZ := Lib.hid HZ2.out
  clear HZ2
  obtain ⟨xa0, xa1, xa2, xa3, xa4, xa5⟩ := row6 (HXA.out w2 HZ.out)
  obtain ⟨xb0, xb1, xb2, xb3, xb4, xb5⟩ := row6 (HXB.out w2 HZ.out)
  obtain ⟨z0, z1, z2, z3, z4, z5, f0, f1, f2, f3, f4, f5⟩ := row6f (HRR.out w2 HZ.out)
  go_wp2_with fail
  have hsz0 := HS0.out
  have hf := fin6R (X := zeroX) (w.heap.size + 1 + 1) HB0.out (by omega) HR0.out (Kept.of_below HZ.out (fun q => (w.heap.size + 1 + 1) + 1 ≤ q)) (zero_ob _ _)
  (try simp only [Exit.inBlock, Exit.then])
  refine bodyPost_ret (rcell2 rfl _ _ (w.heap.size + 1 + 1) _ _ _ _ rfl hf.1 Tryz.underlying31 rfl (by kernel_rfl)) rfl ?_
  exact ⟨_, rfl, rfl, hf.2⟩
 cases hsr : decide ((a.sites.length : Int) = b.roots)
 ·have HE := Lib.hid (show nestB sig a b = false from by rw [HPT.out, hga, hgb, hi, hsr, Bool.true_and, Bool.true_and, Bool.true_and, Bool.false_and])
  rw [HE.out]
  have HGA1 := Lib.hid hga
  have HGB1 := Lib.hid hgb
  clear hga hgb
  have hi0 : decide (0 < a.inner.length) = false := by have := beq_iff_eq.1 hi; rw [this]; rfl
  clear hi
  have hq : ((a.sites.length : Int) != b.roots) = true := by have := of_decide_eq_false hsr; simpa using this
  clear hsr
  go_enter Tryz.func74, Tryz.ntmps74
  have HC := l2Good_any sig a _ _ _ _ _ w0 HSA.out HZS.out (HSG.out w0 (HB0.out.trans (HZ.out.mono HB0.out.size))) (HGA.out w0 (HB0.out.trans (HZ.out.mono HB0.out.size)))
  rw [HGA1.out] at HC
  have HCH := Lib.hid HC
  clear HC
  go_wp2_with fail
  rw [← HW0.out]
  (with_reducible refine HCH.out.mono ?_)
  rintro e w1 ⟨rfl, hb⟩
  have HZ2 := Lib.hid (HZ.out.trans (hb.mono HZ.out.size))
  clear hb HZ HCH
  clear xa0 xa1 xa2 xa3 xa4 xa5 xb0 xb1 xb2 xb3 xb4 xb5
  have HZ := Lib.hid HZ2.out
  clear HZ2
  obtain ⟨xa0, xa1, xa2, xa3, xa4, xa5⟩ := row6 (HXA.out w1 HZ.out)
  obtain ⟨xb0, xb1, xb2, xb3, xb4, xb5⟩ := row6 (HXB.out w1 HZ.out)
  have HC := l2Good_any sig b _ _ _ _ _ w1 HSB.out HZS.out (HSG.out w1 (HB0.out.trans (HZ.out.mono HB0.out.size))) (HGB.out w1 (HB0.out.trans (HZ.out.mono HB0.out.size)))
  rw [HGB1.out] at HC
  have HCH := Lib.hid HC
  clear HC
  go_wp2_with fail
  (with_reducible refine HCH.out.mono ?_)
  rintro e w2 ⟨rfl, hb⟩
  have HZ2 := Lib.hid (HZ.out.trans (hb.mono HZ.out.size))
  clear hb HZ HCH
  clear xa0 xa1 xa2 xa3 xa4 xa5 xb0 xb1 xb2 xb3 xb4 xb5
  have HZ := Lib.hid HZ2.out
  clear HZ2
  obtain ⟨xa0, xa1, xa2, xa3, xa4, xa5⟩ := row6 (HXA.out w2 HZ.out)
  obtain ⟨xb0, xb1, xb2, xb3, xb4, xb5⟩ := row6 (HXB.out w2 HZ.out)
  obtain ⟨z0, z1, z2, z3, z4, z5, f0, f1, f2, f3, f4, f5⟩ := row6f (HRR.out w2 HZ.out)
  go_wp2_with fail
  have hsz0 := HS0.out
  have hf := fin6R (X := zeroX) (w.heap.size + 1 + 1) HB0.out (by omega) HR0.out (Kept.of_below HZ.out (fun q => (w.heap.size + 1 + 1) + 1 ≤ q)) (zero_ob _ _)
  (try simp only [Exit.inBlock, Exit.then])
  refine bodyPost_ret (rcell2 rfl _ _ (w.heap.size + 1 + 1) _ _ _ _ rfl hf.1 Tryz.underlying31 rfl (by kernel_rfl)) rfl ?_
  exact ⟨_, rfl, rfl, hf.2⟩
 cases hgc : goodG sig (nestG a b (sortS (a.outer ++ b.outer)))
 ·have HE := Lib.hid (show nestB sig a b = false from by rw [HPT.out, hga, hgb, hi, hsr, hgc]; rfl)
  rw [HE.out]
  have HGC := Lib.hid hgc
  clear hgc
  have HGDA := Lib.hid ((good_iff sig a).1 hga)
  have HGDB := Lib.hid ((good_iff sig b).1 hgb)
  have HSR := Lib.hid (of_decide_eq_true hsr)
  have HGA1 := Lib.hid hga
  have HGB1 := Lib.hid hgb
  clear hga hgb
  have hi0 : decide (0 < a.inner.length) = false := by have := beq_iff_eq.1 hi; rw [this]; rfl
  clear hi
  have hq : ((a.sites.length : Int) != b.roots) = false := by have := of_decide_eq_true hsr; simpa using this
  clear hsr
  go_enter Tryz.func74, Tryz.ntmps74
  have HC := l2Good_any sig a _ _ _ _ _ w0 HSA.out HZS.out (HSG.out w0 (HB0.out.trans (HZ.out.mono HB0.out.size))) (HGA.out w0 (HB0.out.trans (HZ.out.mono HB0.out.size)))
  rw [HGA1.out] at HC
  have HCH := Lib.hid HC
  clear HC
  go_wp2_with fail
  rw [← HW0.out]
  (with_reducible refine HCH.out.mono ?_)
  rintro e w1 ⟨rfl, hb⟩
  have HZ2 := Lib.hid (HZ.out.trans (hb.mono HZ.out.size))
  clear hb HZ HCH
  clear xa0 xa1 xa2 xa3 xa4 xa5 xb0 xb1 xb2 xb3 xb4 xb5
  have HZ := Lib.hid HZ2.out
  clear HZ2
  obtain ⟨xa0, xa1, xa2, xa3, xa4, xa5⟩ := row6 (HXA.out w1 HZ.out)
  obtain ⟨xb0, xb1, xb2, xb3, xb4, xb5⟩ := row6 (HXB.out w1 HZ.out)
  have HC := l2Good_any sig b _ _ _ _ _ w1 HSB.out HZS.out (HSG.out w1 (HB0.out.trans (HZ.out.mono HB0.out.size))) (HGB.out w1 (HB0.out.trans (HZ.out.mono HB0.out.size)))
  rw [HGB1.out] at HC
  have HCH := Lib.hid HC
  clear HC
  go_wp2_with fail
  (with_reducible refine HCH.out.mono ?_)
  rintro e w2 ⟨rfl, hb⟩
  have HZ2 := Lib.hid (HZ.out.trans (hb.mono HZ.out.size))
  clear hb HZ HCH
  clear xa0 xa1 xa2 xa3 xa4 xa5 xb0 xb1 xb2 xb3 xb4 xb5
  have HZ := Lib.hid HZ2.out
  clear HZ2
  obtain ⟨xa0, xa1, xa2, xa3, xa4, xa5⟩ := row6 (HXA.out w2 HZ.out)
  obtain ⟨xb0, xb1, xb2, xb3, xb4, xb5⟩ := row6 (HXB.out w2 HZ.out)
  have HCO := Lib.hid (l4Nest_any sig a b _ _ _ _ _ _ _ _ w2 HSA.out HSB.out HGDA.out HGDB.out HSR.out.symm (HGA.out w2 (HB0.out.trans (HZ.out.mono HB0.out.size))) (HGB.out w2 (HB0.out.trans (HZ.out.mono HB0.out.size))))
  obtain ⟨g1, hg1⟩ : ∃ g1, g1 = nestG a b (sortS (a.outer ++ b.outer)) := ⟨_, rfl⟩
  have HG1 := Lib.hid hg1
  have HSM1 := Lib.hid (show SmallG g1 from by rw [hg1]; exact nest_small HSA.out HSB.out HGDA.out HGDB.out (nest_outs HGDA.out HGDB.out HSA.out HSB.out).1 (nest_outs HGDA.out HGDB.out HSA.out HSB.out).2)
  rw [← hg1] at HCO
  clear hg1
  go_wp2_with fail
  (with_reducible refine HCO.out.mono ?_)
  rintro e w3 ⟨X, rfl, hXg, hr⟩
  obtain ⟨xr, xe, xnv, xsv, xov, xiv, xns, xls, xss, xos, xis⟩ := X
  obtain ⟨AN2, cN2, AS2, cS2, AO2, cO2, AI2, cI2, e1, e2, e3, e4⟩ := hr.ob.form
  obtain rfl : xr = g1.roots := congrArg Gr.roots hXg
  obtain rfl : xns = g1.nodes := congrArg Gr.nodes hXg
  obtain rfl : xss = g1.sites := congrArg Gr.sites hXg
  obtain rfl : xe = g1.edges := congrArg Gr.edges hXg
  obtain rfl : xos = g1.outer := congrArg Gr.outer hXg
  obtain rfl : xis = g1.inner := congrArg Gr.inner hXg
  dsimp only at e1 e2 e3 e4
  subst e1 e2 e3 e4
  simp only [BX.cells]
  have hz4 := HZ.out.trans (hr.bel.mono HZ.out.size)
  have hsz2 := HZ.out.size
  have hva := l2Give_any sig g1 _ _ _ _ _ w3 HSM1.out HZS.out (HSG.out w3 (HB0.out.trans (hz4.mono HB0.out.size))) (hr.ob.rgr HSM1.out)
  rw [show goodG sig g1 = false from by rw [HG1.out]; exact HGC.out] at hva
  have HVA := Lib.hid hva
  have HZ4 := Lib.hid hz4
  have HOB := Lib.hid hr.ob
  clear hva hXg hr hz4 HCO
  clear xa0 xa1 xa2 xa3 xa4 xa5 xb0 xb1 xb2 xb3 xb4 xb5
  go_wp2_with fail
  (with_reducible refine HVA.out.mono ?_)
  rintro e w4 ⟨rfl, hb⟩
  have HBV := Lib.hid hb
  have HB5 := Lib.hid (HZ4.out.trans (hb.mono HZ4.out.size))
  have hs4 := HZ4.out.size
  have hs5 := hb.size
  clear hb HVA
  rw [if_neg (by decide)]
  simp only [BX.cells, zeroX]
  obtain ⟨z0, z1, z2, z3, z4, z5, f0, f1, f2, f3, f4, f5⟩ := row6f (HRR.out w4 HB5.out)
  go_wp2_with fail
  have hsz0 := HS0.out
  have hf := fin6R (X := zeroX) (w.heap.size + 1 + 1) HB0.out (by omega) HR0.out (Kept.of_below HB5.out (fun q => (w.heap.size + 1 + 1) + 1 ≤ q)) (zero_ob _ _)
  (try simp only [Exit.inBlock, Exit.then])
  refine bodyPost_ret (rcell2 rfl _ _ (w.heap.size + 1 + 1) _ _ _ _ rfl hf.1 Tryz.underlying31 rfl (by kernel_rfl)) rfl ?_
  have hgg := HG1.out
  exact ⟨_, rfl, rfl, hf.2⟩
 have HE := Lib.hid (show nestB sig a b = true from by rw [HPT.out, hga, hgb, hi, hsr, hgc]; rfl)
 rw [HE.out]
 have HGC := Lib.hid hgc
 clear hgc
 have HGDA := Lib.hid ((good_iff sig a).1 hga)
 have HGDB := Lib.hid ((good_iff sig b).1 hgb)
 have HSR := Lib.hid (of_decide_eq_true hsr)
 have HGA1 := Lib.hid hga
 have HGB1 := Lib.hid hgb
 clear hga hgb
 have hi0 : decide (0 < a.inner.length) = false := by have := beq_iff_eq.1 hi; rw [this]; rfl
 clear hi
 have hq : ((a.sites.length : Int) != b.roots) = false := by have := of_decide_eq_true hsr; simpa using this
 clear hsr
 go_enter Tryz.func74, Tryz.ntmps74
 have HC := l2Good_any sig a _ _ _ _ _ w0 HSA.out HZS.out (HSG.out w0 (HB0.out.trans (HZ.out.mono HB0.out.size))) (HGA.out w0 (HB0.out.trans (HZ.out.mono HB0.out.size)))
 rw [HGA1.out] at HC
 have HCH := Lib.hid HC
 clear HC
 go_wp2_with fail
 rw [← HW0.out]
 (with_reducible refine HCH.out.mono ?_)
 rintro e w1 ⟨rfl, hb⟩
 have HZ2 := Lib.hid (HZ.out.trans (hb.mono HZ.out.size))
 clear hb HZ HCH
 clear xa0 xa1 xa2 xa3 xa4 xa5 xb0 xb1 xb2 xb3 xb4 xb5
 have HZ := Lib.hid HZ2.out
 clear HZ2
 obtain ⟨xa0, xa1, xa2, xa3, xa4, xa5⟩ := row6 (HXA.out w1 HZ.out)
 obtain ⟨xb0, xb1, xb2, xb3, xb4, xb5⟩ := row6 (HXB.out w1 HZ.out)
 have HC := l2Good_any sig b _ _ _ _ _ w1 HSB.out HZS.out (HSG.out w1 (HB0.out.trans (HZ.out.mono HB0.out.size))) (HGB.out w1 (HB0.out.trans (HZ.out.mono HB0.out.size)))
 rw [HGB1.out] at HC
 have HCH := Lib.hid HC
 clear HC
 go_wp2_with fail
 (with_reducible refine HCH.out.mono ?_)
 rintro e w2 ⟨rfl, hb⟩
 have HZ2 := Lib.hid (HZ.out.trans (hb.mono HZ.out.size))
 clear hb HZ HCH
 clear xa0 xa1 xa2 xa3 xa4 xa5 xb0 xb1 xb2 xb3 xb4 xb5
 have HZ := Lib.hid HZ2.out
 clear HZ2
 obtain ⟨xa0, xa1, xa2, xa3, xa4, xa5⟩ := row6 (HXA.out w2 HZ.out)
 obtain ⟨xb0, xb1, xb2, xb3, xb4, xb5⟩ := row6 (HXB.out w2 HZ.out)
 have HCO := Lib.hid (l4Nest_any sig a b _ _ _ _ _ _ _ _ w2 HSA.out HSB.out HGDA.out HGDB.out HSR.out.symm (HGA.out w2 (HB0.out.trans (HZ.out.mono HB0.out.size))) (HGB.out w2 (HB0.out.trans (HZ.out.mono HB0.out.size))))
 obtain ⟨g1, hg1⟩ : ∃ g1, g1 = nestG a b (sortS (a.outer ++ b.outer)) := ⟨_, rfl⟩
 have HG1 := Lib.hid hg1
 have HSM1 := Lib.hid (show SmallG g1 from by rw [hg1]; exact nest_small HSA.out HSB.out HGDA.out HGDB.out (nest_outs HGDA.out HGDB.out HSA.out HSB.out).1 (nest_outs HGDA.out HGDB.out HSA.out HSB.out).2)
 rw [← hg1] at HCO
 clear hg1
 go_wp2_with fail
 (with_reducible refine HCO.out.mono ?_)
 rintro e w3 ⟨X, rfl, hXg, hr⟩
 obtain ⟨xr, xe, xnv, xsv, xov, xiv, xns, xls, xss, xos, xis⟩ := X
 obtain ⟨AN2, cN2, AS2, cS2, AO2, cO2, AI2, cI2, e1, e2, e3, e4⟩ := hr.ob.form
 obtain rfl : xr = g1.roots := congrArg Gr.roots hXg
 obtain rfl : xns = g1.nodes := congrArg Gr.nodes hXg
 obtain rfl : xss = g1.sites := congrArg Gr.sites hXg
 obtain rfl : xe = g1.edges := congrArg Gr.edges hXg
 obtain rfl : xos = g1.outer := congrArg Gr.outer hXg
 obtain rfl : xis = g1.inner := congrArg Gr.inner hXg
 dsimp only at e1 e2 e3 e4
 subst e1 e2 e3 e4
 simp only [BX.cells]
 have hz4 := HZ.out.trans (hr.bel.mono HZ.out.size)
 have hsz2 := HZ.out.size
 have hva := l2Give_any sig g1 _ _ _ _ _ w3 HSM1.out HZS.out (HSG.out w3 (HB0.out.trans (hz4.mono HB0.out.size))) (hr.ob.rgr HSM1.out)
 rw [show goodG sig g1 = true from by rw [HG1.out]; exact HGC.out] at hva
 have HVA := Lib.hid hva
 have HZ4 := Lib.hid hz4
 have HOB := Lib.hid hr.ob
 clear hva hXg hr hz4 HCO
 clear xa0 xa1 xa2 xa3 xa4 xa5 xb0 xb1 xb2 xb3 xb4 xb5
 go_wp2_with fail
 (with_reducible refine HVA.out.mono ?_)
 rintro e w4 ⟨rfl, hb⟩
 have HBV := Lib.hid hb
 have HB5 := Lib.hid (HZ4.out.trans (hb.mono HZ4.out.size))
 have hs4 := HZ4.out.size
 have hs5 := hb.size
 clear hb HVA
 rw [if_pos trivial]
 obtain ⟨z0, z1, z2, z3, z4, z5, f0, f1, f2, f3, f4, f5⟩ := row6f (HRR.out w4 HB5.out)
 go_wp2_with fail
 have hsz0 := HS0.out
 have hf := fin6R (X := ⟨g1.roots, g1.edges, .slice AN2 g1.nodes.length cN2, .slice AS2 g1.sites.length cS2, .slice AO2 g1.outer.length cO2, .slice AI2 g1.inner.length cI2, g1.nodes, xls, g1.sites, g1.outer, g1.inner⟩) (w.heap.size + 1 + 1) HB0.out (by omega) HR0.out (Kept.of_below HB5.out (fun q => (w.heap.size + 1 + 1) + 1 ≤ q)) ((HOB.out.below HBV.out).mono (by omega))
 (try simp only [Exit.inBlock, Exit.then])
 refine bodyPost_ret (rcell2 rfl _ _ (w.heap.size + 1 + 1) _ _ _ _ rfl hf.1 Tryz.underlying31 rfl (by kernel_rfl)) rfl ?_
 have hgg := HG1.out
 exact ⟨_, rfl, hgg, hf.2⟩

end Go.Proofs.YtijkdpdmclkmlaaGreatDoor
