/- The program's NestBigraphs: walked. -/
import Derived.Test.YtijkdpdmclkmlaaGreatDoorProg
import Derived.Test.YtijkdpdmclkmlaaGreatDoorJ42
import Derived.Test.YtijkdpdmclkmlaaGreatDoorJ43
import Derived.Test.YtijkdpdmclkmlaaGreatDoorJ33
import Derived.BigQuiet
import Derived.IntWalk
set_option linter.unusedSimpArgs false
set_option linter.unusedVariables false
set_option maxRecDepth 100000
set_option maxHeartbeats 16000000
namespace Go.Proofs.YtijkdpdmclkmlaaGreatDoor
open Go.RowKit
theorem nest_hole {sig : List Ct} {a b : Gr} (hb : GoodP sig b) (hf : (a.sites.length : Int) = b.roots) {p : Int} (hp : (∃ x ∈ b.nodes, x.2.1 = p) ∨ p ∈ b.sites) (hneg : p < 0) : 0 ≤ -1 - p ∧ -1 - p < a.sites.length := by
 have hr : -b.roots ≤ p := by
  rcases hp with ⟨x, hx, rfl⟩ | h
  ·obtain ⟨i, hi, rfl⟩ := List.getElem_of_mem hx
   exact (hb.nod i _ (List.getElem?_eq_getElem hi)).2.1.1 hneg
  exact (hb.sit p h).1 hneg
 omega
theorem implNestBigraphs_any (sig : List Ct) (a b : Gr) (nva sva ova iva nvb svb ovb ivb : Value) (gv : Value) (w : World) (hsa : SmallG a) (hsb : SmallG b) (hz : SmallS sig) (hcap : CapOk gv) (hS : RSl RCt 3 w gv sig) (hGa : RGr w nva sva ova iva a) (hGb : RGr w nvb svb ovb ivb b) :
  Calls Tryz.prog 73 #[gv, .agg #[.int .i64 a.roots, nva, sva, .int .i64 a.edges, ova, iva], .agg #[.int .i64 b.roots, nvb, svb, .int .i64 b.edges, ovb, ivb]] w fun e w' => ∃ X : BX, e = .returned (.tuple #[.agg X.cells, .bool (nestB sig a b)]) ∧ X.g = (if nestB sig a b then nestG a b (sortS (a.outer ++ b.outer)) else zeroG) ∧ RG w w' X := by
 have HGA := Lib.hid (show ∀ W, Below w.heap.size w W → RGr W nva sva ova iva a from fun W hb => hGa.below hb)
 have HGB := Lib.hid (show ∀ W, Below w.heap.size w W → RGr W nvb svb ovb ivb b from fun W hb => hGb.below hb)
 obtain ⟨ANa, cNa, ASa, cSa, AOa, cOa, AIa, cIa, rfl, rfl, rfl, rfl⟩ := hGa.form
 obtain ⟨ANb, cNb, ASb, cSb, AOb, cOb, AIb, cIb, rfl, rfl, rfl, rfl⟩ := hGb.form
 have HSA := Lib.hid hsa
 have HSB := Lib.hid hsb
 have HSG := Lib.hid (show ∀ W, Below w.heap.size w W → RSl RCt 3 W gv sig from fun W hb => hS.below RCt_keep hb)
 obtain ⟨AG, cG, rfl, _⟩ := hS.form
 have HZS := Lib.hid hz
 have HCP := Lib.hid hcap
 obtain ⟨w0, hw0, hb0, hs0, bxa0, bxb0, hR0⟩ := laid3 w (.cells #[.int .i64 a.roots, .slice ANa a.nodes.length cNa, .slice ASa a.sites.length cSa, .int .i64 a.edges, .slice AOa a.outer.length cOa, .slice AIa a.inner.length cIa] 31) (.cells #[.int .i64 b.roots, .slice ANb b.nodes.length cNb, .slice ASb b.sites.length cSb, .int .i64 b.edges, .slice AOb b.outer.length cOb, .slice AIb b.inner.length cIb] 31) (.cells #[.int .i64 0, .slice none 0 0, .slice none 0 0, .int .i64 0, .slice none 0 0, .slice none 0 0] 31)
 have HRR := Lib.hid (keepB hR0)
 have HXA := Lib.hid (keepB bxa0)
 have HXB := Lib.hid (keepB bxb0)
 have HB0 := Lib.hid hb0
 have HW0 := Lib.hid hw0
 have HR0 := Lib.hid hR0
 have HS0 := Lib.hid hs0
 have HZ := Lib.hid (Below.refl w0.heap.size w0)
 obtain ⟨xa0, xa1, xa2, xa3, xa4, xa5⟩ := row6 bxa0
 obtain ⟨xb0, xb1, xb2, xb3, xb4, xb5⟩ := row6 bxb0
 rw [hw0] at xa0 xa1 xa2 xa3 xa4 xa5 xb0 xb1 xb2 xb3 xb4 xb5
 clear hGa hGb hsa hsb hb0 hs0 bxa0 bxb0 hR0 hw0 hS hz hcap
 have HPT := Lib.hid (show nestB sig a b = (goodG sig a && goodG sig b && (a.inner.length == 0) && decide ((a.sites.length : Int) = b.roots) && goodG sig (nestG a b (sortS (a.outer ++ b.outer)))) from rfl)
 cases hga : goodG sig a
 ·have HE := Lib.hid (show nestB sig a b = false from by rw [HPT.out, hga, Bool.false_and, Bool.false_and, Bool.false_and, Bool.false_and])
  rw [HE.out]
  have HGA1 := Lib.hid hga
  clear hga
  go_enter Tryz.func73, Tryz.ntmps73
  have HC := isBigraph_any sig a _ _ _ _ _ w0 HSA.out HZS.out HCP.out (HSG.out w0 (HB0.out.trans (HZ.out.mono HB0.out.size))) (HGA.out w0 (HB0.out.trans (HZ.out.mono HB0.out.size)))
  rw [HGA1.out] at HC
  have HCH := Lib.hid HC
  clear HC
  go_wp2_with fail
  rw [← HW0.out]
  (with_reducible refine HCH.out.mono ?_)
  rintro e w1 ⟨rfl, hb⟩
  have HZ2 := Lib.hid (HZ.out.trans (hb.mono HZ.out.size))
  clear hb HZ HCH
  clear xa0 xa1 xa2 xa3 xa4 xa5 xb0 xb1 xb2 xb3 xb4 xb5
  have HZ := Lib.hid HZ2.out
  clear HZ2
  obtain ⟨xa0, xa1, xa2, xa3, xa4, xa5⟩ := row6 (HXA.out w1 HZ.out)
  obtain ⟨xb0, xb1, xb2, xb3, xb4, xb5⟩ := row6 (HXB.out w1 HZ.out)
  clear xa0 xa1 xa2 xa3 xa4 xa5 xb0 xb1 xb2 xb3 xb4 xb5
  obtain ⟨z0, z1, z2, z3, z4, z5, f0, f1, f2, f3, f4, f5⟩ := row6f (HRR.out w1 HZ.out)
  go_wp2_with fail
  have hsz0 := HS0.out
  have hf := fin6R (X := zeroX) (w.heap.size + 1 + 1) HB0.out (by omega) HR0.out (Kept.of_below HZ.out (fun q => (w.heap.size + 1 + 1) + 1 ≤ q)) (zero_ob _ _)
  (try simp only [Exit.inBlock, Exit.then])
  refine bodyPost_ret (rcell2 rfl _ _ (w.heap.size + 1 + 1) _ _ _ _ rfl hf.1 Tryz.underlying31 rfl (by kernel_rfl)) rfl ?_
  exact ⟨_, rfl, rfl, hf.2⟩
 cases hgb : goodG sig b
 ·have HE := Lib.hid (show nestB sig a b = false from by rw [HPT.out, hga, hgb, Bool.true_and, Bool.false_and, Bool.false_and, Bool.false_and])
  rw [HE.out]
  have HGA1 := Lib.hid hga
  have HGB1 := Lib.hid hgb
  clear hga hgb
  go_enter Tryz.func73, Tryz.ntmps73
  have HC := isBigraph_any sig a _ _ _ _ _ w0 HSA.out HZS.out HCP.out (HSG.out w0 (HB0.out.trans (HZ.out.mono HB0.out.size))) (HGA.out w0 (HB0.out.trans (HZ.out.mono HB0.out.size)))
  rw [HGA1.out] at HC
  have HCH := Lib.hid HC
  clear HC
  go_wp2_with fail
  rw [← HW0.out]
  (with_reducible refine HCH.out.mono ?_)
  rintro e w1 ⟨rfl, hb⟩
  have HZ2 := Lib.hid (HZ.out.trans (hb.mono HZ.out.size))
  clear hb HZ HCH
  clear xa0 xa1 xa2 xa3 xa4 xa5 xb0 xb1 xb2 xb3 xb4 xb5
  have HZ := Lib.hid HZ2.out
  clear HZ2
  obtain ⟨xa0, xa1, xa2, xa3, xa4, xa5⟩ := row6 (HXA.out w1 HZ.out)
  obtain ⟨xb0, xb1, xb2, xb3, xb4, xb5⟩ := row6 (HXB.out w1 HZ.out)
  have HC := isBigraph_any sig b _ _ _ _ _ w1 HSB.out HZS.out HCP.out (HSG.out w1 (HB0.out.trans (HZ.out.mono HB0.out.size))) (HGB.out w1 (HB0.out.trans (HZ.out.mono HB0.out.size)))
  rw [HGB1.out] at HC
  have HCH := Lib.hid HC
  clear HC
  go_wp2_with fail
  (with_reducible refine HCH.out.mono ?_)
  rintro e w2 ⟨rfl, hb⟩
  have HZ2 := Lib.hid (HZ.out.trans (hb.mono HZ.out.size))
  clear hb HZ HCH
  clear xa0 xa1 xa2 xa3 xa4 xa5 xb0 xb1 xb2 xb3 xb4 xb5
  have HZ := Lib.hid HZ2.out
  clear HZ2
  obtain ⟨xa0, xa1, xa2, xa3, xa4, xa5⟩ := row6 (HXA.out w2 HZ.out)
  obtain ⟨xb0, xb1, xb2, xb3, xb4, xb5⟩ := row6 (HXB.out w2 HZ.out)
  clear xa0 xa1 xa2 xa3 xa4 xa5 xb0 xb1 xb2 xb3 xb4 xb5
  obtain ⟨z0, z1, z2, z3, z4, z5, f0, f1, f2, f3, f4, f5⟩ := row6f (HRR.out w2 HZ.out)
  go_wp2_with fail
  have hsz0 := HS0.out
  have hf := fin6R (X := zeroX) (w.heap.size + 1 + 1) HB0.out (by omega) HR0.out (Kept.of_below HZ.out (fun q => (w.heap.size + 1 + 1) + 1 ≤ q)) (zero_ob _ _)
  (try simp only [Exit.inBlock, Exit.then])
  refine bodyPost_ret (rcell2 rfl _ _ (w.heap.size + 1 + 1) _ _ _ _ rfl hf.1 Tryz.underlying31 rfl (by kernel_rfl)) rfl ?_
  exact ⟨_, rfl, rfl, hf.2⟩
 cases hi : (a.inner.length == 0)
 ·have HE := Lib.hid (show nestB sig a b = false from by rw [HPT.out, hga, hgb, hi, Bool.true_and, Bool.true_and, Bool.false_and, Bool.false_and])
  rw [HE.out]
  have HGA1 := Lib.hid hga
  have HGB1 := Lib.hid hgb
  clear hga hgb
  have hi1 : decide (0 < a.inner.length) = true := decide_eq_true (by have := ne_of_beq_false hi; omega)
  clear hi
  go_enter Tryz.func73, Tryz.ntmps73
  have HC := isBigraph_any sig a _ _ _ _ _ w0 HSA.out HZS.out HCP.out (HSG.out w0 (HB0.out.trans (HZ.out.mono HB0.out.size))) (HGA.out w0 (HB0.out.trans (HZ.out.mono HB0.out.size)))
  rw [HGA1.out] at HC
  have HCH := Lib.hid HC
  clear HC
  go_wp2_with fail
  rw [← HW0.out]
  (with_reducible refine HCH.out.mono ?_)
  rintro e w1 ⟨rfl, hb⟩
  have HZ2 := Lib.hid (HZ.out.trans (hb.mono HZ.out.size))
  clear hb HZ HCH
  clear xa0 xa1 xa2 xa3 xa4 xa5 xb0 xb1 xb2 xb3 xb4 xb5
  have HZ := Lib.hid HZ2.out
  clear HZ2
  obtain ⟨xa0, xa1, xa2, xa3, xa4, xa5⟩ := row6 (HXA.out w1 HZ.out)
  obtain ⟨xb0, xb1, xb2, xb3, xb4, xb5⟩ := row6 (HXB.out w1 HZ.out)
  have HC := isBigraph_any sig b _ _ _ _ _ w1 HSB.out HZS.out HCP.out (HSG.out w1 (HB0.out.trans (HZ.out.mono HB0.out.size))) (HGB.out w1 (HB0.out.trans (HZ.out.mono HB0.out.size)))
  rw [HGB1.out] at HC
  have HCH := Lib.hid HC
  clear HC
  go_wp2_with fail
  (with_reducible refine HCH.out.mono ?_)
  rintro e w2 ⟨rfl, hb⟩
  have HZ2 := Lib.hid (HZ.out.trans (hb.mono HZ.out.size))
  clear hb HZ HCH
  clear xa0 xa1 xa2 xa3 xa4 xa5 xb0 xb1 xb2 xb3 xb4 xb5
  have HZ := Lib.hid HZ2.out
  clear HZ2
  obtain ⟨xa0, xa1, xa2, xa3, xa4, xa5⟩ := row6 (HXA.out w2 HZ.out)
  obtain ⟨xb0, xb1, xb2, xb3, xb4, xb5⟩ := row6 (HXB.out w2 HZ.out)
  obtain ⟨z0, z1, z2, z3, z4, z5, f0, f1, f2, f3, f4, f5⟩ := row6f (HRR.out w2 HZ.out)
  go_wp2_with fail
  have hsz0 := HS0.out
  have hf := fin6R (X := zeroX) (w.heap.size + 1 + 1) HB0.out (by omega) HR0.out (Kept.of_below HZ.out (fun q => (w.heap.size + 1 + 1) + 1 ≤ q)) (zero_ob _ _)
  (try simp only [Exit.inBlock, Exit.then])
  refine bodyPost_ret (rcell2 rfl _ _ (w.heap.size + 1 + 1) _ _ _ _ rfl hf.1 Tryz.underlying31 rfl (by kernel_rfl)) rfl ?_
  exact ⟨_, rfl, rfl, hf.2⟩
 cases hsr : decide ((a.sites.length : Int) = b.roots)
 ·have HE := Lib.hid (show nestB sig a b = false from by rw [HPT.out, hga, hgb, hi, hsr, Bool.true_and, Bool.true_and, Bool.true_and, Bool.false_and])
  rw [HE.out]
  have HGA1 := Lib.hid hga
  have HGB1 := Lib.hid hgb
  clear hga hgb
  have hi0 : decide (0 < a.inner.length) = false := by have := beq_iff_eq.1 hi; rw [this]; rfl
  clear hi
  have hq : ((a.sites.length : Int) != b.roots) = true := by have := of_decide_eq_false hsr; simpa using this
  clear hsr
  go_enter Tryz.func73, Tryz.ntmps73
  have HC := isBigraph_any sig a _ _ _ _ _ w0 HSA.out HZS.out HCP.out (HSG.out w0 (HB0.out.trans (HZ.out.mono HB0.out.size))) (HGA.out w0 (HB0.out.trans (HZ.out.mono HB0.out.size)))
  rw [HGA1.out] at HC
  have HCH := Lib.hid HC
  clear HC
  go_wp2_with fail
  rw [← HW0.out]
  (with_reducible refine HCH.out.mono ?_)
  rintro e w1 ⟨rfl, hb⟩
  have HZ2 := Lib.hid (HZ.out.trans (hb.mono HZ.out.size))
  clear hb HZ HCH
  clear xa0 xa1 xa2 xa3 xa4 xa5 xb0 xb1 xb2 xb3 xb4 xb5
  have HZ := Lib.hid HZ2.out
  clear HZ2
  obtain ⟨xa0, xa1, xa2, xa3, xa4, xa5⟩ := row6 (HXA.out w1 HZ.out)
  obtain ⟨xb0, xb1, xb2, xb3, xb4, xb5⟩ := row6 (HXB.out w1 HZ.out)
  have HC := isBigraph_any sig b _ _ _ _ _ w1 HSB.out HZS.out HCP.out (HSG.out w1 (HB0.out.trans (HZ.out.mono HB0.out.size))) (HGB.out w1 (HB0.out.trans (HZ.out.mono HB0.out.size)))
  rw [HGB1.out] at HC
  have HCH := Lib.hid HC
  clear HC
  go_wp2_with fail
  (with_reducible refine HCH.out.mono ?_)
  rintro e w2 ⟨rfl, hb⟩
  have HZ2 := Lib.hid (HZ.out.trans (hb.mono HZ.out.size))
  clear hb HZ HCH
  clear xa0 xa1 xa2 xa3 xa4 xa5 xb0 xb1 xb2 xb3 xb4 xb5
  have HZ := Lib.hid HZ2.out
  clear HZ2
  obtain ⟨xa0, xa1, xa2, xa3, xa4, xa5⟩ := row6 (HXA.out w2 HZ.out)
  obtain ⟨xb0, xb1, xb2, xb3, xb4, xb5⟩ := row6 (HXB.out w2 HZ.out)
  obtain ⟨z0, z1, z2, z3, z4, z5, f0, f1, f2, f3, f4, f5⟩ := row6f (HRR.out w2 HZ.out)
  go_wp2_with fail
  have hsz0 := HS0.out
  have hf := fin6R (X := zeroX) (w.heap.size + 1 + 1) HB0.out (by omega) HR0.out (Kept.of_below HZ.out (fun q => (w.heap.size + 1 + 1) + 1 ≤ q)) (zero_ob _ _)
  (try simp only [Exit.inBlock, Exit.then])
  refine bodyPost_ret (rcell2 rfl _ _ (w.heap.size + 1 + 1) _ _ _ _ rfl hf.1 Tryz.underlying31 rfl (by kernel_rfl)) rfl ?_
  exact ⟨_, rfl, rfl, hf.2⟩
 obtain ⟨ok, hgc⟩ : ∃ ok, goodG sig (nestG a b (sortS (a.outer ++ b.outer))) = ok := ⟨_, rfl⟩
 obtain ⟨g2, hg2⟩ : ∃ g2, g2 = (if ok = true then nestG a b (sortS (a.outer ++ b.outer)) else zeroG) := ⟨_, rfl⟩
 have HG2 := Lib.hid hg2
 have HE := Lib.hid (show nestB sig a b = ok from by rw [HPT.out, hga, hgb, hi, hsr, hgc]; rfl)
 rw [HE.out, ← hg2]
 clear hg2
 have HGC := Lib.hid hgc
 clear hgc
 have HGDA := Lib.hid ((good_iff sig a).1 hga)
 have HGDB := Lib.hid ((good_iff sig b).1 hgb)
 have HSR := Lib.hid (of_decide_eq_true hsr)
 have HGA1 := Lib.hid hga
 have HGB1 := Lib.hid hgb
 clear hga hgb
 have hi0 : decide (0 < a.inner.length) = false := by have := beq_iff_eq.1 hi; rw [this]; rfl
 clear hi
 have hq : ((a.sites.length : Int) != b.roots) = false := by have := of_decide_eq_true hsr; simpa using this
 clear hsr
 go_enter Tryz.func73, Tryz.ntmps73
 have HC := isBigraph_any sig a _ _ _ _ _ w0 HSA.out HZS.out HCP.out (HSG.out w0 (HB0.out.trans (HZ.out.mono HB0.out.size))) (HGA.out w0 (HB0.out.trans (HZ.out.mono HB0.out.size)))
 rw [HGA1.out] at HC
 have HCH := Lib.hid HC
 clear HC
 go_wp2_with fail
 rw [← HW0.out]
 (with_reducible refine HCH.out.mono ?_)
 rintro e w1 ⟨rfl, hb⟩
 have HZ2 := Lib.hid (HZ.out.trans (hb.mono HZ.out.size))
 clear hb HZ HCH
 clear xa0 xa1 xa2 xa3 xa4 xa5 xb0 xb1 xb2 xb3 xb4 xb5
 have HZ := Lib.hid HZ2.out
 clear HZ2
 obtain ⟨xa0, xa1, xa2, xa3, xa4, xa5⟩ := row6 (HXA.out w1 HZ.out)
 obtain ⟨xb0, xb1, xb2, xb3, xb4, xb5⟩ := row6 (HXB.out w1 HZ.out)
 have HC := isBigraph_any sig b _ _ _ _ _ w1 HSB.out HZS.out HCP.out (HSG.out w1 (HB0.out.trans (HZ.out.mono HB0.out.size))) (HGB.out w1 (HB0.out.trans (HZ.out.mono HB0.out.size)))
 rw [HGB1.out] at HC
 have HCH := Lib.hid HC
 clear HC
 go_wp2_with fail
 (with_reducible refine HCH.out.mono ?_)
 rintro e w2 ⟨rfl, hb⟩
 have HZ2 := Lib.hid (HZ.out.trans (hb.mono HZ.out.size))
 clear hb HZ HCH
 clear xa0 xa1 xa2 xa3 xa4 xa5 xb0 xb1 xb2 xb3 xb4 xb5
 have HZ := Lib.hid HZ2.out
 clear HZ2
 obtain ⟨xa0, xa1, xa2, xa3, xa4, xa5⟩ := row6 (HXA.out w2 HZ.out)
 obtain ⟨xb0, xb1, xb2, xb3, xb4, xb5⟩ := row6 (HXB.out w2 HZ.out)
 have hal := HSA.out.sites
 have h5 := names_len HGDA.out.on
 have h6 := names_len HGDB.out.on
 obtain ⟨oo, hoo⟩ : ∃ oo, oo = a.outer ++ b.outer := ⟨_, rfl⟩
 have hool : oo.length ≤ 32 := by rw [hoo, List.length_append]; omega
 obtain ⟨g1, hg1⟩ : ∃ g1, g1 = nestG a b (sortS (a.outer ++ b.outer)) := ⟨_, rfl⟩
 have HG1 := Lib.hid (show g1 = nestG a b (sortS oo) from by rw [hg1, hoo])
 have HGG := Lib.hid hg1
 have HSM1 := Lib.hid (show SmallG g1 from by rw [hg1]; exact nest_small HSA.out HSB.out HGDA.out HGDB.out (nest_outs HGDA.out HGDB.out HSA.out HSB.out).1 (nest_outs HGDA.out HGDB.out HSA.out HSB.out).2)
 have HOO := Lib.hid hoo
 have HGC1 := Lib.hid (show goodG sig g1 = ok from by rw [HGG.out]; exact HGC.out)
 have hF1 : ∀ (args : Array Value) (w : World), (callFunc 168 args).run Tryz.prog w = .ok (.enter 168 args) w := fun args w => enter_of (P := Tryz.prog) (F := 168) (fn := Tryz.f168) (by kernel_rfl) (by kernel_rfl) (by kernel_rfl) args w
 have hF2 : ∀ (args : Array Value) (w : World), (callFunc 169 args).run Tryz.prog w = .ok (.enter 169 args) w := fun args w => enter_of (P := Tryz.prog) (F := 169) (fn := Tryz.f169) (by kernel_rfl) (by kernel_rfl) (by kernel_rfl) args w
 have HF1 := Lib.hid hF1
 have HF2 := Lib.hid hF2
 have HBS := Lib.hid (HB0.out.trans (HZ.out.mono HB0.out.size))
 clear hoo hg1 hF1 hF2
 have hz2 := HZ.out.size
 go_wp2_with fail
 clear xa0 xa1 xa2 xa3 xa4 xa5 xb0 xb1 xb2 xb3 xb4 xb5
 refine wp_region_w (by kernel_rfl) [some 33, some 34, some 35, some 36, some 37, some 38, some 39, some 40, some 41, some 42, some 43, some 44, some 45, some 46, some 47, some 48, none, some 7] [16] (fun q v W => match q with | 0 => v = .slice AG sig.length cG | 1 => v = .agg #[.int .i64 a.roots, .slice ANa a.nodes.length cNa, .slice ASa a.sites.length cSa, .int .i64 a.edges, .slice AOa a.outer.length cOa, .slice AIa a.inner.length cIa] | 2 => v = .agg #[.int .i64 b.roots, .slice ANb b.nodes.length cNb, .slice ASb b.sites.length cSb, .int .i64 b.edges, .slice AOb b.outer.length cOb, .slice AIb b.inner.length cIb] | 3 => v = .pointer (some ⟨w.heap.size, 0, none⟩) | 4 => v = .int .i64 a.roots | 5 => v = .pointer (some ⟨w.heap.size, 4, none⟩) | 6 => v = .slice AOa a.outer.length cOa | 7 => v = .pointer (some ⟨w.heap.size + 1, 4, none⟩) | 8 => v = .slice AOb b.outer.length cOb | 9 => ∃ gz, v = .slice (some ⟨gz, 0, none⟩) 2 2 ∧ LitAt (w2.heap.size) W gz (.cells #[.slice AOa a.outer.length cOa, .slice AOb b.outer.length cOb] 24) | 10 => ∃ A1 c1, v = .slice A1 oo.length c1 ∧ W.ownsRow w2.heap.size 9 1 (.slice A1 oo.length c1) oo.length (strs oo) | 11 => v = .func (.func 168) #[] #[.pointer (some ⟨w.heap.size, 0, none⟩)] | 12 => ∃ (X : BX), v = .agg X.cells ∧ X.g = g1 ∧ OB W w2.heap.size X | 13 => ∃ (X : BX), v = .tuple #[.agg X.cells, .bool ok] ∧ X.g = g2 ∧ OB W w2.heap.size X | 14 => ∃ (X : BX), v = .agg X.cells ∧ X.g = g2 ∧ OB W w2.heap.size X | 15 => v = .bool ok | 17 => v = .bool ok | _ => True) (fun l W => match l with | [false] => Below w2.heap.size w2 W | _ => ∃ X : BX, W.heap[(w.heap.size + 1 + 1)]? = some (.cells X.cells 31) ∧ X.g = g2 ∧ RG w W X) (by kernel_rfl) (by kernel_rfl) ?m1o ((Below.refl _ _).drew) ?s1t ?f1i
 case m1o =>
  intro q v W W' hb h
  match q, h with
  | 0, h | 1, h | 2, h | 3, h | 4, h | 5, h | 6, h | 7, h | 8, h | 11, h | 15, h | 16, h | 17, h => exact h
  | 9, h => obtain ⟨x0, e, hr⟩ := h; exact ⟨x0, e, hr.kept hb⟩
  | 10, h => obtain ⟨x0, x1, e, hr⟩ := h; exact ⟨x0, x1, e, ownsK hr hb (fun g hg e => by have := (hr.lt g hg).1; omega)⟩
  | 12, h | 13, h | 14, h => obtain ⟨x0, e, hr⟩ := h; exact ⟨x0, e, ⟨hr.1, hr.2.kept hb (fun q hq => .inl hq)⟩⟩
  | q + 18, _ => trivial
 case s1t =>
  as_aux_lemma =>
  intro L act W q o h ho K3 hS hK
  match q, ho with
  | 0, ho =>
   cases ho
   have a0 : act.tmps[0]? = some _ := h.out 0 (by decide)
   clear h hK
   go_simp
   exact hS rfl _ rfl
  | 1, ho =>
   cases ho
   have a4 : act.tmps[4]? = some _ := h.out 4 (by decide)
   have hD := h.d
   have hn1 := h.off 1 (by kernel_rfl)
   have hn16 := h.off 16 (by kernel_rfl)
   simp only [List.map_cons, List.map_nil, hn16] at hD
   obtain ⟨xa0, xa1, xa2, xa3, xa4, xa5⟩ := row6 (HXA.out W (HZ.out.trans (hD.mono HZ.out.size)))
   have HD := Lib.hid hD
   clear hD h hK
   go_simp
   exact hS rfl _ rfl
  | 2, ho =>
   cases ho
   have a5 : act.tmps[5]? = some _ := h.out 5 (by decide)
   have hD := h.d
   have hn2 := h.off 2 (by kernel_rfl)
   have hn16 := h.off 16 (by kernel_rfl)
   simp only [List.map_cons, List.map_nil, hn16] at hD
   obtain ⟨xb0, xb1, xb2, xb3, xb4, xb5⟩ := row6 (HXB.out W (HZ.out.trans (hD.mono HZ.out.size)))
   have HD := Lib.hid hD
   clear hD h hK
   go_simp
   exact hS rfl _ rfl
  | 3, ho | 5, ho | 11, ho =>
   cases ho
   have a4 : act.tmps[4]? = some _ := h.out 4 (by decide)
   clear h hK
   go_simp
   exact hS rfl _ rfl
  | 4, ho =>
   cases ho
   have v3 := h.val 3 rfl rfl fun _ h => h
   have hD := h.d
   have hn4 := h.off 4 (by kernel_rfl)
   have hn16 := h.off 16 (by kernel_rfl)
   simp only [List.map_cons, List.map_nil, hn16] at hD
   obtain ⟨xa0, xa1, xa2, xa3, xa4, xa5⟩ := row6 (HXA.out W (HZ.out.trans (hD.mono HZ.out.size)))
   have HD := Lib.hid hD
   clear hD h hK
   go_simp
   exact hS rfl _ rfl
  | 6, ho =>
   cases ho
   have v5 := h.val 5 rfl rfl fun _ h => h
   have hD := h.d
   have hn6 := h.off 6 (by kernel_rfl)
   have hn16 := h.off 16 (by kernel_rfl)
   simp only [List.map_cons, List.map_nil, hn16] at hD
   obtain ⟨xa0, xa1, xa2, xa3, xa4, xa5⟩ := row6 (HXA.out W (HZ.out.trans (hD.mono HZ.out.size)))
   have HD := Lib.hid hD
   clear hD h hK
   go_simp
   exact hS rfl _ rfl
  | 7, ho =>
   cases ho
   have a5 : act.tmps[5]? = some _ := h.out 5 (by decide)
   clear h hK
   go_simp
   exact hS rfl _ rfl
  | 8, ho =>
   cases ho
   have v7 := h.val 7 rfl rfl fun _ h => h
   have hD := h.d
   have hn8 := h.off 8 (by kernel_rfl)
   have hn16 := h.off 16 (by kernel_rfl)
   simp only [List.map_cons, List.map_nil, hn16] at hD
   obtain ⟨xb0, xb1, xb2, xb3, xb4, xb5⟩ := row6 (HXB.out W (HZ.out.trans (hD.mono HZ.out.size)))
   have HD := Lib.hid hD
   clear hD h hK
   go_simp
   exact hS rfl _ rfl
  | 9, ho =>
   cases ho
   have v6 := h.val 6 rfl rfl fun _ h => h
   have v8 := h.val 8 rfl rfl fun _ h => h
   have hsz := h.size
   have hD := h.d
   have hn9 := h.off 9 (by kernel_rfl)
   have hn16 := h.off 16 (by kernel_rfl)
   simp only [List.map_cons, List.map_nil, hn16] at hD
   have HD := Lib.hid hD
   clear hD h hS
   go_simp
   exact hK _ _ (kept_alloc _ _ _) ⟨_, rfl, .new hsz⟩ ((by simp only [List.map_cons, List.map_nil, upd, hn16]; exact HD.out.alloc hsz _))
  | 10, ho =>
   cases ho
   obtain ⟨_, v9, gz9, rfl, hr9⟩ := h.has 9 rfl rfl
   have hD := h.d
   have hn10 := h.off 10 (by kernel_rfl)
   have hn16 := h.off 16 (by kernel_rfl)
   have hsz9 := h.size
   have hat := hr9.at_
   simp only [List.map_cons, List.map_nil, hn16] at hD
   have HD := Lib.hid hD
   clear hD h hS
   go_simp
   go_at_call 167
   refine (concat2_any gz9 AOa AOb cOa cOb a.outer b.outer W (by omega) hat (by obtain ⟨A', c', e, h⟩ := (HGA.out W (HBS.out.trans (HD.out.mono HBS.out.size))).o; cases e; exact h) (by obtain ⟨A', c', e, h⟩ := (HGB.out W (HBS.out.trans (HD.out.mono HBS.out.size))).o; cases e; exact h)).mono ?_
   rintro e W' ⟨A1, c1, rfl, ho, hbq⟩
   rw [← HOO.out] at ho ⊢
   go_simp
   exact hK _ _ (Kept.of_below hbq _) (⟨_, _, rfl, owns_mono ho hsz9⟩) ((by simp only [List.map_cons, List.map_nil, upd, hn16]; exact HD.out.trans (hbq.mono hsz9)))
  | 12, ho =>
   cases ho
   have v1 := h.val 1 rfl rfl fun _ h => h
   have v2 := h.val 2 rfl rfl fun _ h => h
   have v4 := h.val 4 rfl rfl fun _ h => h
   obtain ⟨_, v10, A110, c110, rfl, hr10⟩ := h.has 10 rfl rfl
   have v11 := h.val 11 rfl rfl fun _ h => h
   have hD := h.d
   have hn12 := h.off 12 (by kernel_rfl)
   have hn16 := h.off 16 (by kernel_rfl)
   have hsz9 := h.size
   have hc10 := Cells.of_owns hr10
   simp only [List.map_cons, List.map_nil, hn16] at hD
   have HD := Lib.hid hD
   clear hD h hS
   go_simp
   go_at_call 166
   refine (joined_any a b _ _ _ _ _ _ _ _ a.roots none 0 [] A110 c110 oo 168 #[.pointer (some ⟨w.heap.size, 0, none⟩)] (underA a) 169 #[] asNameE W HSA.out HSB.out (by omega) (by simp) (good_links HGDA.out) (good_links HGDB.out) (good_pars HGDB.out) (HGA.out W (HBS.out.trans (HD.out.mono HBS.out.size))) (HGB.out W (HBS.out.trans (HD.out.mono HBS.out.size))) hc10 (fun j u hj => by simp at hj) HF1.out HF2.out (fun p W2 hp hneg hb2 => nest1_any a w.heap.size ASa cSa p W2 (nest_hole HGDB.out HSR.out hp hneg) hal (cell_of_row _ _ 2 _ _ _ (HXA.out W2 ((HZ.out.trans (HD.out.mono HZ.out.size)).trans (hb2.mono (HZ.out.trans (HD.out.mono HZ.out.size)).size)))) (by obtain ⟨A', c', e, h⟩ := (HGA.out W2 ((HBS.out.trans (HD.out.mono HBS.out.size)).trans (hb2.mono (HBS.out.trans (HD.out.mono HBS.out.size)).size))).s; cases e; exact h)) (fun l W2 hl hne hb2 => asName_any _ W2)).mono ?_
   rintro e W' ⟨X, rfl, hXg, hrg⟩
   have hbq := hrg.bel
   replace hXg := hXg.trans HG1.out.symm
   go_simp
   exact hK _ _ (Kept.of_below hbq _) (⟨X, rfl, hXg, hrg.ob.mono hsz9⟩) ((by simp only [List.map_cons, List.map_nil, upd, hn16]; exact HD.out.trans (hbq.mono hsz9)))
  | 13, ho =>
   cases ho
   have v0 := h.val 0 rfl rfl fun _ h => h
   obtain ⟨_, v12, X12, rfl, hr12⟩ := h.has 12 rfl rfl
   have hD := h.d
   have hn13 := h.off 13 (by kernel_rfl)
   have hn16 := h.off 16 (by kernel_rfl)
   have hsz9 := h.size
   obtain ⟨hXg, hob⟩ := hr12
   obtain ⟨xr, xe, xnv, xsv, xov, xiv, xns, xls, xss, xos, xis⟩ := X12
   obtain ⟨AN2, cN2, AS2, cS2, AO2, cO2, AI2, cI2, e1, e2, e3, e4⟩ := hob.form
   obtain rfl : xr = g1.roots := congrArg Gr.roots hXg
   obtain rfl : xns = g1.nodes := congrArg Gr.nodes hXg
   obtain rfl : xss = g1.sites := congrArg Gr.sites hXg
   obtain rfl : xe = g1.edges := congrArg Gr.edges hXg
   obtain rfl : xos = g1.outer := congrArg Gr.outer hXg
   obtain rfl : xis = g1.inner := congrArg Gr.inner hXg
   dsimp only at e1 e2 e3 e4
   subst e1 e2 e3 e4
   simp only [BX.cells] at v12
   have hgr := hob.rgr (show SmallG (BX.g _) from HSM1.out)
   clear hXg hob
   simp only [List.map_cons, List.map_nil, hn16] at hD
   have HD := Lib.hid hD
   clear hD h hS
   go_simp
   go_at_call 110
   refine ((by have hva := valid_any sig g1 _ _ _ _ _ W HSM1.out HZS.out HCP.out (HSG.out W (HBS.out.trans (HD.out.mono HBS.out.size))) hgr; rw [HGC1.out] at hva; exact hva : Calls _ _ _ _ _)).mono ?_
   rintro e W' ⟨X, rfl, hXg, hrg⟩
   have hbq := hrg.bel
   replace hXg : X.g = g2 := hXg.trans (by rw [HG2.out, HGG.out])
   go_simp
   exact hK _ _ (Kept.of_below hbq _) (⟨X, rfl, hXg, hrg.ob.mono hsz9⟩) ((by simp only [List.map_cons, List.map_nil, upd, hn16]; exact HD.out.trans (hbq.mono hsz9)))
  | 14, ho =>
   cases ho
   obtain ⟨_, v13, X13, rfl, hr13⟩ := h.has 13 rfl rfl
   clear h hK
   go_simp
   exact hS rfl _ ⟨_, rfl, hr13⟩
  | 15, ho =>
   cases ho
   obtain ⟨_, v13, X13, rfl, hr13⟩ := h.has 13 rfl rfl
   clear h hK
   go_simp
   exact hS rfl _ rfl
  | 16, ho =>
   cases ho
   have a6 : act.tmps[6]? = some _ := h.out 6 (by decide)
   obtain ⟨_, v14, X14, rfl, hr14⟩ := h.has 14 rfl rfl
   have hD := h.d
   have hn16 := h.off 16 (by kernel_rfl)
   simp only [List.map_cons, List.map_nil, hn16] at hD
   obtain ⟨hXg, hob⟩ := hr14
   obtain ⟨xr, xe, xnv, xsv, xov, xiv, xns, xls, xss, xos, xis⟩ := X14
   obtain ⟨YN, dN, YS, dS, YO, dO, YI, dI, e1, e2, e3, e4⟩ := hob.form
   dsimp only at e1 e2 e3 e4
   subst e1 e2 e3 e4
   have HOB := Lib.hid hob
   have HXG := Lib.hid hXg
   have hsw := h.size
   have HNO := Lib.hid (show upd L 16 16 = true from upd_same _ _)
   obtain ⟨z0, z1, z2, z3, z4, z5, f0, f1, f2, f3, f4, f5⟩ := row6f (HRR.out W (HZ.out.trans (hD.mono HZ.out.size)))
   have HD := Lib.hid hD
   clear hob hXg hD hn16
   simp only [BX.cells] at v14
   clear h hS
   go_simp
   have hsz0 := HS0.out
   have hf := fin6R (X := ⟨xr, xe, .slice YN xns.length dN, .slice YS xss.length dS, .slice YO xos.length dO, .slice YI xis.length dI, xns, xls, xss, xos, xis⟩) ((w.heap.size + 1 + 1)) HB0.out (by omega) HR0.out (Kept.of_below (HZ.out.trans (HD.out.mono HZ.out.size)) (fun q => (w.heap.size + 1 + 1) + 1 ≤ q)) (HOB.out.mono (by omega))
   refine hK undef _ ?_ trivial ?_
   ·exact ((((((Kept.refl _ _).setCell (p := ⟨(w.heap.size + 1 + 1), 0, none⟩) (show (w.heap.size + 1 + 1) < w2.heap.size by omega) _).setCell (p := ⟨(w.heap.size + 1 + 1), 1, none⟩) (show (w.heap.size + 1 + 1) < w2.heap.size by omega) _).setCell (p := ⟨(w.heap.size + 1 + 1), 2, none⟩) (show (w.heap.size + 1 + 1) < w2.heap.size by omega) _).setCell (p := ⟨(w.heap.size + 1 + 1), 3, none⟩) (show (w.heap.size + 1 + 1) < w2.heap.size by omega) _).setCell (p := ⟨(w.heap.size + 1 + 1), 4, none⟩) (show (w.heap.size + 1 + 1) < w2.heap.size by omega) _).setCell (p := ⟨(w.heap.size + 1 + 1), 5, none⟩) (show (w.heap.size + 1 + 1) < w2.heap.size by omega) _
   simp only [List.map_cons, List.map_nil, HNO.out]
   exact ⟨_, hf.1, HXG.out, hf.2⟩
  | 17, ho =>
   cases ho
   have v15 := h.val 15 rfl rfl fun _ h => h
   clear h hK
   go_simp
   exact hS rfl _ rfl
  | q + 18, ho => simp at ho
 intro V W hsW HD0 hV
 have v0 : V 0 = _ := hV 0 33 rfl
 have v1 : V 1 = _ := hV 1 34 rfl
 have v2 : V 2 = _ := hV 2 35 rfl
 have v3 : V 3 = _ := hV 3 36 rfl
 have v4 : V 4 = _ := hV 4 37 rfl
 have v5 : V 5 = _ := hV 5 38 rfl
 have v6 : V 6 = _ := hV 6 39 rfl
 have v7 : V 7 = _ := hV 7 40 rfl
 have v8 : V 8 = _ := hV 8 41 rfl
 obtain ⟨gz9, v9, hr9⟩ := hV 9 42 rfl
 obtain ⟨A110, c110, v10, hr10⟩ := hV 10 43 rfl
 have v11 : V 11 = _ := hV 11 44 rfl
 obtain ⟨X12, v12, hr12⟩ := hV 12 45 rfl
 obtain ⟨X13, v13, hr13⟩ := hV 13 46 rfl
 obtain ⟨X14, v14, hr14⟩ := hV 14 47 rfl
 have v15 : V 15 = _ := hV 15 48 rfl
 have v17 : V 17 = _ := hV 17 7 rfl
 clear hV
 simp only [layV, List.setIfInBounds_toArray, List.set_cons_zero, List.set_cons_succ, v0, v1, v2, v3, v4, v5, v6, v7, v8, v9, v10, v11, v12, v13, v14, v15, v17]
 clear v0 v1 v2 v3 v4 v5 v6 v7 v8 v9 v10 v11 v12 v13 v14 v15 v17
 obtain ⟨X, hX, hXg, hrg⟩ := HD0
 have HXX := Lib.hid hX
 have HXG := Lib.hid hXg
 have HRG := Lib.hid hrg
 clear hX hXg hrg
 go_wp2_with fail
 (try simp only [Exit.inBlock, Exit.then])
 refine bodyPost_ret (rcell2 rfl _ _ (w.heap.size + 1 + 1) _ _ _ _ rfl HXX.out Tryz.underlying31 rfl (by kernel_rfl)) rfl ?_
 exact ⟨_, rfl, HXG.out, HRG.out⟩

end Go.Proofs.YtijkdpdmclkmlaaGreatDoor
