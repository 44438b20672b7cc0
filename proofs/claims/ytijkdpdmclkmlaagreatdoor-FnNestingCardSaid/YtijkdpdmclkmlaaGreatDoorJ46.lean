/- The program's ParallelProduct where it gives a bigraph: walked. A bigraph that is being drawn, and the node that is being drawn for it. -/
import Derived.Test.YtijkdpdmclkmlaaGreatDoorProg
import Derived.Test.YtijkdpdmclkmlaaGreatDoorJ45
import Derived.Test.YtijkdpdmclkmlaaGreatDoorJ33
import Derived.BigQuiet
import Derived.Test.YtijkdpdmclkmlaaGreatDoorJ16
set_option linter.unusedSimpArgs false
set_option linter.unusedVariables false
set_option maxRecDepth 100000
set_option maxHeartbeats 16000000
namespace Go.Proofs.YtijkdpdmclkmlaaGreatDoor
open Go.RowKit
theorem innerNames_n (g : Gr) (nv sv ov iv : Value) (w : World) (hs : SmallG g) (hG : RGr w nv sv ov iv g) :
  Calls Tryz.prog 141 #[.agg #[.int .i64 g.roots, nv, sv, .int .i64 g.edges, ov, iv]] w fun e w' => ∃ A c, e = .returned (.slice A (innerN g).length c) ∧ w'.ownsRow w.heap.size 9 1 (.slice A (innerN g).length c) (innerN g).length (strs (innerN g)) ∧ Below w.heap.size w w' := by
 refine (innerNames_any g nv sv ov iv w hs hG).mono ?_
 rintro e W' ⟨u, rfl, ho, hb⟩
 rw [show g.inner.length = (innerN g).length from by unfold innerN; rw [List.length_map]] at ho
 obtain ⟨A, c, rfl, ho⟩ := owns_form ho
 exact ⟨A, c, rfl, ho, hb⟩

theorem parB_parts {sig : List Ct} {a b : Gr} (h : parB sig a b = true) : goodG sig a = true ∧ goodG sig b = true ∧ commonB (innerN a) (innerN b) = false ∧ goodG sig (parG a b) = true := by
 unfold parB at h
 simp only [Bool.and_eq_true, Bool.not_eq_true'] at h
 exact ⟨h.1.1.1, h.1.1.2, h.1.2, h.2⟩

theorem implParallelProduct_any (sig : List Ct) (a b : Gr) (nva sva ova iva nvb svb ovb ivb : Value) (gv : Value) (w : World) (hsa : SmallG a) (hsb : SmallG b) (hz : SmallS sig) (hcap : CapOk gv) (hp : parB sig a b = true) (hsm : SmallG (parG a b)) (hS : RSl RCt 3 w gv sig) (hGa : RGr w nva sva ova iva a) (hGb : RGr w nvb svb ovb ivb b) :
  Calls Tryz.prog 75 #[gv, .agg #[.int .i64 a.roots, nva, sva, .int .i64 a.edges, ova, iva], .agg #[.int .i64 b.roots, nvb, svb, .int .i64 b.edges, ovb, ivb]] w fun e w' => ∃ X : BX, e = .returned (.tuple #[.agg X.cells, .bool true]) ∧ X.g = parG a b ∧ RG w w' X := by
 have HGA := Lib.hid (show ∀ W, Below w.heap.size w W → RGr W nva sva ova iva a from fun W hb => hGa.below hb)
 have HGB := Lib.hid (show ∀ W, Below w.heap.size w W → RGr W nvb svb ovb ivb b from fun W hb => hGb.below hb)
 obtain ⟨ANa, cNa, ASa, cSa, AOa, cOa, AIa, cIa, rfl, rfl, rfl, rfl⟩ := hGa.form
 obtain ⟨ANb, cNb, ASb, cSb, AOb, cOb, AIb, cIb, rfl, rfl, rfl, rfl⟩ := hGb.form
 have HSA := Lib.hid hsa
 have HSB := Lib.hid hsb
 have HSG := Lib.hid (show ∀ W, Below w.heap.size w W → RSl RCt 3 W gv sig from fun W hb => hS.below RCt_keep hb)
 obtain ⟨AG, cG, rfl, _⟩ := hS.form
 have HZS := Lib.hid hz
 have HCP := Lib.hid hcap
 obtain ⟨w0, hw0, hb0, hs0, bxa0, bxb0, hR0⟩ := laid3 w (.cells #[.int .i64 a.roots, .slice ANa a.nodes.length cNa, .slice ASa a.sites.length cSa, .int .i64 a.edges, .slice AOa a.outer.length cOa, .slice AIa a.inner.length cIa] 31) (.cells #[.int .i64 b.roots, .slice ANb b.nodes.length cNb, .slice ASb b.sites.length cSb, .int .i64 b.edges, .slice AOb b.outer.length cOb, .slice AIb b.inner.length cIb] 31) (.cells #[.int .i64 0, .slice none 0 0, .slice none 0 0, .int .i64 0, .slice none 0 0, .slice none 0 0] 31)
 have HRR := Lib.hid (keepB hR0)
 have HXA := Lib.hid (keepB bxa0)
 have HXB := Lib.hid (keepB bxb0)
 have HB0 := Lib.hid hb0
 have HW0 := Lib.hid hw0
 have HR0 := Lib.hid hR0
 have HS0 := Lib.hid hs0
 have HZ := Lib.hid (Below.refl w0.heap.size w0)
 obtain ⟨xa0, xa1, xa2, xa3, xa4, xa5⟩ := row6 bxa0
 obtain ⟨xb0, xb1, xb2, xb3, xb4, xb5⟩ := row6 bxb0
 rw [hw0] at xa0 xa1 xa2 xa3 xa4 xa5 xb0 xb1 xb2 xb3 xb4 xb5
 obtain ⟨p1, p2, p3, p4⟩ := parB_parts hp
 have HGA1 := Lib.hid p1
 have HGB1 := Lib.hid p2
 have HCM := Lib.hid p3
 have HGC := Lib.hid p4
 have HSM := Lib.hid hsm
 have HGDA := Lib.hid ((good_iff sig a).1 p1)
 have HGDB := Lib.hid ((good_iff sig b).1 p2)
 have hia : (innerN a).length ≤ 1000 := by unfold innerN; rw [List.length_map]; exact hsa.inner
 have hib : (innerN b).length ≤ 1000 := by unfold innerN; rw [List.length_map]; exact hsb.inner
 clear hp hsm p1 p2 p3 p4
 clear hGa hGb hsa hsb hb0 hs0 bxa0 bxb0 hR0 hw0 hS hz hcap
 go_enter Tryz.func75, Tryz.ntmps75
 go_wp2_with fail
 rw [← HW0.out]
 clear xa0 xa1 xa2 xa3 xa4 xa5 xb0 xb1 xb2 xb3 xb4 xb5
 refine wp_region_w (by kernel_rfl) [some 8, some 9, some 10, some 11, some 12, some 13, some 14, some 15, some 16, some 17, some 18, some 19, some 20, some 21, some 22, some 23, some 24] [] (fun q v W => match q with | 0 => v = .slice AG sig.length cG | 1 => v = .agg #[.int .i64 a.roots, .slice ANa a.nodes.length cNa, .slice ASa a.sites.length cSa, .int .i64 a.edges, .slice AOa a.outer.length cOa, .slice AIa a.inner.length cIa] | 2 => v = .bool true | 3 => v = .bool false | 4 => v = .bool false | 5 => v = .slice AG sig.length cG | 6 => v = .agg #[.int .i64 b.roots, .slice ANb b.nodes.length cNb, .slice ASb b.sites.length cSb, .int .i64 b.edges, .slice AOb b.outer.length cOb, .slice AIb b.inner.length cIb] | 7 => v = .bool true | 8 => v = .bool false | 9 => v = .bool false | 10 => v = .bool false | 11 => v = .agg #[.int .i64 a.roots, .slice ANa a.nodes.length cNa, .slice ASa a.sites.length cSa, .int .i64 a.edges, .slice AOa a.outer.length cOa, .slice AIa a.inner.length cIa] | 12 => ∃ A1 c1, v = .slice A1 (innerN a).length c1 ∧ W.ownsRow w0.heap.size 9 1 (.slice A1 (innerN a).length c1) (innerN a).length (strs (innerN a)) | 13 => v = .agg #[.int .i64 b.roots, .slice ANb b.nodes.length cNb, .slice ASb b.sites.length cSb, .int .i64 b.edges, .slice AOb b.outer.length cOb, .slice AIb b.inner.length cIb] | 14 => ∃ A1 c1, v = .slice A1 (innerN b).length c1 ∧ W.ownsRow w0.heap.size 9 1 (.slice A1 (innerN b).length c1) (innerN b).length (strs (innerN b)) | 15 => v = .bool false | 16 => v = .bool false | _ => True) (fun _ W => Below w0.heap.size w0 W) (by kernel_rfl) (by kernel_rfl) ?m1o ((Below.refl _ _).drew) ?s1t ?f1i
 case m1o =>
  intro q v W W' hb h
  match q, h with
  | 0, h | 1, h | 2, h | 3, h | 4, h | 5, h | 6, h | 7, h | 8, h | 9, h | 10, h | 11, h | 13, h | 15, h | 16, h => exact h
  | 12, h | 14, h => obtain ⟨x0, x1, e, hr⟩ := h; exact ⟨x0, x1, e, ownsK hr hb (fun g hg e => by have := (hr.lt g hg).1; omega)⟩
  | q + 17, _ => trivial
 case s1t =>
  as_aux_lemma =>
  intro L act W q o h ho K3 hS hK
  match q, ho with
  | 0, ho =>
   cases ho
   have a0 : act.tmps[0]? = some _ := h.out 0 (by decide)
   clear h hK
   go_simp
   exact hS rfl _ rfl
  | 1, ho =>
   cases ho
   have a4 : act.tmps[4]? = some _ := h.out 4 (by decide)
   have hD := h.d
   obtain ⟨xa0, xa1, xa2, xa3, xa4, xa5⟩ := row6 (HXA.out W hD)
   have HD := Lib.hid hD
   clear hD h hK
   go_simp
   exact hS rfl _ rfl
  | 2, ho =>
   cases ho
   have v0 := h.val 0 rfl rfl fun _ h => h
   have v1 := h.val 1 rfl rfl fun _ h => h
   have hD := h.d
   have hsz9 := h.size
   have HD := Lib.hid hD
   clear hD h hS
   go_simp
   go_at_call 59
   refine ((by have h := isBigraph_any sig a _ _ _ _ _ W HSA.out HZS.out HCP.out (HSG.out W (HB0.out.trans (HD.out.mono HB0.out.size))) (HGA.out W (HB0.out.trans (HD.out.mono HB0.out.size))); rw [HGA1.out] at h; exact h : Calls _ _ _ _ _)).mono ?_
   rintro e W' ⟨rfl, hbq⟩
   go_simp
   exact hK _ _ (Kept.of_below hbq _) (rfl) (HD.out.trans (hbq.mono hsz9))
  | 3, ho =>
   cases ho
   have v2 := h.val 2 rfl rfl fun _ h => h
   clear h hK
   go_simp
   exact hS rfl _ rfl
  | 4, ho =>
   cases ho
   have v3 := h.val 3 rfl rfl fun _ h => h
   clear h hK
   go_simp
   exact hS rfl _ rfl
  | 5, ho =>
   cases ho
   have a0 : act.tmps[0]? = some _ := h.out 0 (by decide)
   have v4 := h.val 4 rfl rfl fun _ h => h
   clear h hK
   go_simp
   exact hS rfl _ rfl
  | 6, ho =>
   cases ho
   have a5 : act.tmps[5]? = some _ := h.out 5 (by decide)
   have v4 := h.val 4 rfl rfl fun _ h => h
   have hD := h.d
   obtain ⟨xb0, xb1, xb2, xb3, xb4, xb5⟩ := row6 (HXB.out W hD)
   have HD := Lib.hid hD
   clear hD h hK
   go_simp
   exact hS rfl _ rfl
  | 7, ho =>
   cases ho
   have v4 := h.val 4 rfl rfl fun _ h => h
   have v5 := h.val 5 rfl rfl fun _ h => h
   have v6 := h.val 6 rfl rfl fun _ h => h
   have hD := h.d
   have hsz9 := h.size
   have HD := Lib.hid hD
   clear hD h hS
   go_simp
   go_at_call 59
   refine ((by have h := isBigraph_any sig b _ _ _ _ _ W HSB.out HZS.out HCP.out (HSG.out W (HB0.out.trans (HD.out.mono HB0.out.size))) (HGB.out W (HB0.out.trans (HD.out.mono HB0.out.size))); rw [HGB1.out] at h; exact h : Calls _ _ _ _ _)).mono ?_
   rintro e W' ⟨rfl, hbq⟩
   go_simp
   exact hK _ _ (Kept.of_below hbq _) (rfl) (HD.out.trans (hbq.mono hsz9))
  | 8, ho =>
   cases ho
   have v4 := h.val 4 rfl rfl fun _ h => h
   have v7 := h.val 7 rfl rfl fun _ h => h
   clear h hK
   go_simp
   exact hS rfl _ rfl
  | 9, ho =>
   cases ho
   have v4 := h.val 4 rfl rfl fun _ h => h
   have v8 := h.val 8 rfl rfl fun _ h => h
   clear h hK
   go_simp
   exact hS rfl _ rfl
  | 10, ho =>
   cases ho
   have v9 := h.val 9 rfl rfl fun _ h => h
   clear h hK
   go_simp
   exact hS rfl _ rfl
  | 11, ho =>
   cases ho
   have a4 : act.tmps[4]? = some _ := h.out 4 (by decide)
   have v10 := h.val 10 rfl rfl fun _ h => h
   have hD := h.d
   obtain ⟨xa0, xa1, xa2, xa3, xa4, xa5⟩ := row6 (HXA.out W hD)
   have HD := Lib.hid hD
   clear hD h hK
   go_simp
   exact hS rfl _ rfl
  | 12, ho =>
   cases ho
   have v10 := h.val 10 rfl rfl fun _ h => h
   have v11 := h.val 11 rfl rfl fun _ h => h
   have hD := h.d
   have hsz9 := h.size
   have HD := Lib.hid hD
   clear hD h hS
   go_simp
   go_at_call 141
   refine (innerNames_n a _ _ _ _ W HSA.out (HGA.out W (HB0.out.trans (HD.out.mono HB0.out.size)))).mono ?_
   rintro e W' ⟨A1, c1, rfl, ho, hbq⟩
   go_simp
   exact hK _ _ (Kept.of_below hbq _) (⟨_, _, rfl, owns_mono ho hsz9⟩) (HD.out.trans (hbq.mono hsz9))
  | 13, ho =>
   cases ho
   have a5 : act.tmps[5]? = some _ := h.out 5 (by decide)
   have v10 := h.val 10 rfl rfl fun _ h => h
   have hD := h.d
   obtain ⟨xb0, xb1, xb2, xb3, xb4, xb5⟩ := row6 (HXB.out W hD)
   have HD := Lib.hid hD
   clear hD h hK
   go_simp
   exact hS rfl _ rfl
  | 14, ho =>
   cases ho
   have v10 := h.val 10 rfl rfl fun _ h => h
   have v13 := h.val 13 rfl rfl fun _ h => h
   have hD := h.d
   have hsz9 := h.size
   have HD := Lib.hid hD
   clear hD h hS
   go_simp
   go_at_call 141
   refine (innerNames_n b _ _ _ _ W HSB.out (HGB.out W (HB0.out.trans (HD.out.mono HB0.out.size)))).mono ?_
   rintro e W' ⟨A1, c1, rfl, ho, hbq⟩
   go_simp
   exact hK _ _ (Kept.of_below hbq _) (⟨_, _, rfl, owns_mono ho hsz9⟩) (HD.out.trans (hbq.mono hsz9))
  | 15, ho =>
   cases ho
   have v10 := h.val 10 rfl rfl fun _ h => h
   obtain ⟨_, v12, A112, c112, rfl, hr12⟩ := h.has 12 rfl rfl
   obtain ⟨_, v14, A114, c114, rfl, hr14⟩ := h.has 14 rfl rfl
   have hD := h.d
   have hsz9 := h.size
   have hcA := Cells.of_owns hr12
   have hcB := Cells.of_owns hr14
   have HD := Lib.hid hD
   clear hD h hS
   go_simp
   go_at_call 171
   refine ((by have h := haveCommon_any A112 A114 c112 c114 (innerN a) (innerN b) W hia hib hcA hcB; rw [HCM.out] at h; exact h : Calls _ _ _ _ _)).mono ?_
   rintro e W' ⟨rfl, hbq⟩
   go_simp
   exact hK _ _ (Kept.of_below hbq _) (rfl) (HD.out.trans (hbq.mono hsz9))
  | 16, ho =>
   cases ho
   have v10 := h.val 10 rfl rfl fun _ h => h
   have v15 := h.val 15 rfl rfl fun _ h => h
   clear h hK
   go_simp
   exact hS rfl _ rfl
  | q + 17, ho => simp at ho
 intro V W hsW HD0 hV
 have v0 : V 0 = _ := hV 0 8 rfl
 have v1 : V 1 = _ := hV 1 9 rfl
 have v2 : V 2 = _ := hV 2 10 rfl
 have v3 : V 3 = _ := hV 3 11 rfl
 have v4 : V 4 = _ := hV 4 12 rfl
 have v5 : V 5 = _ := hV 5 13 rfl
 have v6 : V 6 = _ := hV 6 14 rfl
 have v7 : V 7 = _ := hV 7 15 rfl
 have v8 : V 8 = _ := hV 8 16 rfl
 have v9 : V 9 = _ := hV 9 17 rfl
 have v10 : V 10 = _ := hV 10 18 rfl
 have v11 : V 11 = _ := hV 11 19 rfl
 obtain ⟨A112, c112, v12, hr12⟩ := hV 12 20 rfl
 have v13 : V 13 = _ := hV 13 21 rfl
 obtain ⟨A114, c114, v14, hr14⟩ := hV 14 22 rfl
 have v15 : V 15 = _ := hV 15 23 rfl
 have v16 : V 16 = _ := hV 16 24 rfl
 clear hV
 simp only [layV, List.setIfInBounds_toArray, List.set_cons_zero, List.set_cons_succ, v0, v1, v2, v3, v4, v5, v6, v7, v8, v9, v10, v11, v12, v13, v14, v15, v16]
 clear v0 v1 v2 v3 v4 v5 v6 v7 v8 v9 v10 v11 v12 v13 v14 v15 v16
 obtain ⟨w1, hw1⟩ : ∃ w1, w1 = W := ⟨_, rfl⟩
 subst hw1
 have HZ2 := Lib.hid (show Below w0.heap.size w0 w1 from HD0)
 clear HD0 HZ hr12 hr14
 have HZ := Lib.hid HZ2.out
 clear HZ2
 obtain ⟨xa0, xa1, xa2, xa3, xa4, xa5⟩ := row6 (HXA.out w1 HZ.out)
 obtain ⟨xb0, xb1, xb2, xb3, xb4, xb5⟩ := row6 (HXB.out w1 HZ.out)
 have HCO := Lib.hid (parallel_any sig a b _ _ _ _ _ _ _ _ w1 HSA.out HSB.out HGDA.out HGDB.out HCM.out (HGA.out w1 (HB0.out.trans (HZ.out.mono HB0.out.size))) (HGB.out w1 (HB0.out.trans (HZ.out.mono HB0.out.size))))
 obtain ⟨g1, hg1⟩ : ∃ g1, g1 = parG a b := ⟨_, rfl⟩
 have HG1 := Lib.hid hg1
 have HSM1 := Lib.hid (show SmallG g1 from by rw [hg1]; exact HSM.out)
 rw [← hg1] at HCO
 clear hg1
 go_wp2_with fail
 (with_reducible refine HCO.out.mono ?_)
 rintro e w2 ⟨X, rfl, hXg, hr⟩
 obtain ⟨xr, xe, xnv, xsv, xov, xiv, xns, xls, xss, xos, xis⟩ := X
 obtain ⟨AN2, cN2, AS2, cS2, AO2, cO2, AI2, cI2, e1, e2, e3, e4⟩ := hr.ob.form
 obtain rfl : xr = g1.roots := congrArg Gr.roots hXg
 obtain rfl : xns = g1.nodes := congrArg Gr.nodes hXg
 obtain rfl : xss = g1.sites := congrArg Gr.sites hXg
 obtain rfl : xe = g1.edges := congrArg Gr.edges hXg
 obtain rfl : xos = g1.outer := congrArg Gr.outer hXg
 obtain rfl : xis = g1.inner := congrArg Gr.inner hXg
 dsimp only at e1 e2 e3 e4
 subst e1 e2 e3 e4
 simp only [BX.cells]
 have hz4 := HZ.out.trans (hr.bel.mono HZ.out.size)
 have hva := valid_any sig g1 _ _ _ _ _ w2 HSM1.out HZS.out HCP.out (HSG.out w2 (HB0.out.trans (hz4.mono HB0.out.size))) (hr.ob.rgr HSM1.out)
 rw [show goodG sig g1 = true from by rw [HG1.out]; exact HGC.out] at hva
 have HVA := Lib.hid hva
 have HZ4 := Lib.hid hz4
 clear hva hXg hr hz4 HCO
 clear xa0 xa1 xa2 xa3 xa4 xa5 xb0 xb1 xb2 xb3 xb4 xb5
 go_wp2_with fail
 (with_reducible refine HVA.out.mono ?_)
 rintro e w3 ⟨X, rfl, hXg, hr⟩
 obtain ⟨xr, xe, xnv, xsv, xov, xiv, xns, xls, xss, xos, xis⟩ := X
 obtain ⟨YN, dN, YS, dS, YO, dO, YI, dI, e1, e2, e3, e4⟩ := hr.ob.form
 dsimp only at e1 e2 e3 e4
 subst e1 e2 e3 e4
 have HXG := Lib.hid hXg
 have HB5 := Lib.hid (HZ4.out.trans (hr.bel.mono HZ4.out.size))
 have hs4 := HZ4.out.size
 have hs5 := hr.bel.size
 have HR := Lib.hid hr
 clear hXg hr HVA
 simp only [BX.cells]
 obtain ⟨z0, z1, z2, z3, z4, z5, f0, f1, f2, f3, f4, f5⟩ := row6f (HRR.out w3 HB5.out)
 go_wp2_with fail
 have hsz0 := HS0.out
 have hf := fin6R (X := ⟨xr, xe, .slice YN xns.length dN, .slice YS xss.length dS, .slice YO xos.length dO, .slice YI xis.length dI, xns, xls, xss, xos, xis⟩) (w.heap.size + 1 + 1) HB0.out (by omega) HR0.out (Kept.of_below HB5.out (fun q => (w.heap.size + 1 + 1) + 1 ≤ q)) (HR.out.ob.mono (by omega))
 (try simp only [Exit.inBlock, Exit.then])
 refine bodyPost_ret (rcell2 rfl _ _ (w.heap.size + 1 + 1) _ _ _ _ rfl hf.1 Tryz.underlying31 rfl (by kernel_rfl)) rfl ?_
 have hgg := HG1.out
 subst hgg
 exact ⟨_, rfl, HXG.out.trans (if_pos trivial), hf.2⟩

/-- The node in the box Q; C: how much memory there was when it was begun. -/
structure GX (w : World) (p B P C : Nat) (A : Option Addr) (bs : List Int) (c : Nat) (d : Bool) (bx : Array Value) (X : BX) (Q : Nat) (ct pa : Int) (lv : Value) (lks : List Int) (K : Nat) (W : World) : Prop where
  gs : GS w p B P C A bs c d bx X K W
  nx : W.heap[Q]? = some (.cells #[.int .i64 ct, .int .i64 pa, lv] 88)
  lk : W.ownsRow C 3 1 lv lks.length (ints lks)
  lt : C ≤ Q
  nv : ∀ g, X.nv.ownBlock = some g → g < C
  sv : X.sv = .slice none 0 0

section
variable {w W W' : World} {p B P C c K K' Q : Nat} {A : Option Addr} {bs : List Int} {d : Bool} {bx : Array Value} {X : BX} {ct pa : Int} {lv : Value} {lks : List Int}
theorem GX.mono (h : GX w p B P C A bs c d bx X Q ct pa lv lks K W) (hk : K ≤ K') : GX w p B P C A bs c d bx X Q ct pa lv lks K' W := { h with gs := h.gs.mono hk }
theorem GX.lay (h : GX w p B P C A bs c d bx X Q ct pa lv lks K W) (hb : Below W.heap.size W W') : GX w p B P C A bs c d bx X Q ct pa lv lks K W' :=
  { h with gs := h.gs.lay hb, nx := (hb.block Q (Array.getElem?_eq_some_iff.1 h.nx).1).trans h.nx, lk := owns_below h.lk hb (Nat.le_refl _) }
theorem GX.alloc (h : GX w p B P C A bs c d bx X Q ct pa lv lks K W) (o : Obj) : GX w p B P C A bs c d bx X Q ct pa lv lks K (W.alloc o) := h.lay ((Below.refl _ _).alloc (Nat.le_refl _) o)
theorem GX.drew (h : GX w p B P C A bs c d bx X Q ct pa lv lks K W) : GX w p B P C A bs c d bx X Q ct pa lv lks K W.drew := h.lay ((Below.refl _ _).drew)
theorem GX.draw (h : GX w p B P C A bs c d bx X Q ct pa lv lks K W) (hpB : p < B) (hBC : B ≤ C) (hpP : p < P) (hk : Kept (fun q => q = p) W W') (hC : Cur W' p A bs c K') : GX w p B P C A bs c d bx X Q ct pa lv lks K' W' := by
  have hl := h.lt
  exact { h with gs := h.gs.draw hpB hBC hpP hk hC, nx := (hk.block Q (Array.getElem?_eq_some_iff.1 h.nx).1 (by omega)).trans h.nx, lk := ownsK h.lk hk (fun g hg e => by have := (h.lk.lt g hg).1; omega) }
/-- The system stays where a block of the node's turns. -/
theorem GS.aside {T : Nat → Prop} (h : GS w p B P C A bs c d bx X K W) (hpB : p < B) (hBC : B ≤ C) (hPC : P < C) (hnv : ∀ g, X.nv.ownBlock = some g → g < C) (hO : ∀ g, X.ov.ownBlock = some g → ¬ T g) (hI : ∀ g, X.iv.ownBlock = some g → ¬ T g) (hsv : X.sv = .slice none 0 0) (hk : Kept T W W') (hT : ∀ q, T q → C ≤ q) : GS w p B P C A bs c d bx X K W' :=
  { k := h.k.trans (hk.mono fun b hb => .inr (.inr (by have := hT b hb; omega))), cur := h.cur.kept hk (fun q hq => by have := hT q hq; omega)
    box := (hk.block P (Array.getElem?_eq_some_iff.1 h.box).1 (fun e => by have := hT P e; omega)).trans h.box
    N := h.N.kept hk (fun g hg e => by have := hnv g hg; have := hT g e; omega) (fun i l g hl hg e => by have := h.N.lt i l g hl hg; have := hT g e; omega)
    S := ownsK h.S hk (fun g hg e => by rw [hsv] at hg; simp [Value.ownBlock] at hg)
    O := ownsK h.O hk hO, I := ownsK h.I hk hI }
/-- A field of the node is written. -/
theorem GX.putN {cs : Array Value} (h : GX w p B P C A bs c d bx X Q ct pa lv lks K W) (hpB : p < B) (hBC : B ≤ C) (hPC : P < C) (f : Nat) (u : Value) {ct2 pa2 : Int} (hc : (#[Value.int .i64 ct, .int .i64 pa, lv] : Array Value).setIfInBounds f u = #[.int .i64 ct2, .int .i64 pa2, lv]) : GX w p B P C A bs c d bx X Q ct2 pa2 lv lks K (W.setCell ⟨Q, f, none⟩ u) := by
  have hK : Kept (fun q => q = Q) W (W.setCell ⟨Q, f, none⟩ u) := (Kept.refl _ W).setCell (S := fun q => q = Q) (p := ⟨Q, f, none⟩) rfl _
  exact { gs := h.gs.aside hpB hBC hPC h.nv (fun g hg e => by subst e; exact ownsT h.gs.O h.nx (by decide) hg) (fun g hg e => by subst e; exact ownsT h.gs.I h.nx (by decide) hg) h.sv hK (fun q hq => by have := h.lt; omega)
          nx := by rw [← hc]; exact heap_setCell_same W Q f _ _ u h.nx
          lk := ownsK h.lk hK (fun g hg e => by subst e; exact ownsT h.lk h.nx (by decide) hg), lt := h.lt, nv := h.nv, sv := h.sv }
/-- The links' row has grown: the box still holds the old one. -/
theorem GX.appL {v : Value} {y : Int} (h : GX w p B P C A bs c d bx X Q ct pa lv lks K W) (hpB : p < B) (hBC : B ≤ C) (hPC : P < C) (ho : W'.ownsRow C 3 1 v (lks.length + 1) (ints lks ++ [.int .i64 y])) (hk : Kept (fun q => lv.ownBlock = some q) W W') :
    GS w p B P C A bs c d bx X K W' ∧ W'.heap[Q]? = some (.cells #[.int .i64 ct, .int .i64 pa, lv] 88) ∧ W'.ownsRow C 3 1 v (lks ++ [y]).length (ints (lks ++ [y])) ∧ C ≤ Q ∧ (∀ g, X.nv.ownBlock = some g → g < C) ∧ X.sv = .slice none 0 0 := by
  refine ⟨h.gs.aside hpB hBC hPC h.nv (fun g hg => ownsA h.gs.O h.lk (by decide) g hg) (fun g hg => ownsA h.gs.I h.lk (by decide) g hg) h.sv hk (fun q hq => (h.lk.lt q hq).1), (hk.block Q (Array.getElem?_eq_some_iff.1 h.nx).1 (fun e => ownsT h.lk h.nx (by decide) e)).trans h.nx, ?_, h.lt, h.nv, h.sv⟩
  rw [List.length_append, show ints (lks ++ [y]) = ints lks ++ [.int .i64 y] from by simp [ints]]
  exact ho
/-- .. and is stored. -/
theorem GX.putL {v : Value} {l2 : List Int} (h : GS w p B P C A bs c d bx X K W ∧ W.heap[Q]? = some (.cells #[.int .i64 ct, .int .i64 pa, lv] 88) ∧ W.ownsRow C 3 1 v l2.length (ints l2) ∧ C ≤ Q ∧ (∀ g, X.nv.ownBlock = some g → g < C) ∧ X.sv = .slice none 0 0) (hpB : p < B) (hBC : B ≤ C) (hPC : P < C) : GX w p B P C A bs c d bx X Q ct pa v l2 K (W.setCell ⟨Q, 2, none⟩ v) := by
  obtain ⟨hg, hq, ho, hlt, hnv, hsv⟩ := h
  have hK : Kept (fun q => q = Q) W (W.setCell ⟨Q, 2, none⟩ v) := (Kept.refl _ W).setCell (S := fun q => q = Q) (p := ⟨Q, 2, none⟩) rfl _
  exact { gs := hg.aside hpB hBC hPC hnv (fun g hg' e => by subst e; exact ownsT hg.O hq (by decide) hg') (fun g hg' e => by subst e; exact ownsT hg.I hq (by decide) hg') hsv hK (fun q hq => by omega)
          nx := heap_setCell_same W Q 2 _ _ v hq
          lk := ownsK ho hK (fun g hg e => by subst e; exact ownsT ho hq (by decide) hg), lt := hlt, nv := hnv, sv := hsv }
/-- The node is begun: its box, laid somewhere above, gets its first values. -/
theorem GX.first {cs : Array Value} (h : GS w p B P C A bs c d bx X K W) (hq : W.heap[Q]? = some (.cells cs 88)) (hcs : cs.size = 3) (hpB : p < B) (hBC : B ≤ C) (hPC : P < C) (hlt : C ≤ Q) (hnv : ∀ g, X.nv.ownBlock = some g → g < C) (hsv : X.sv = .slice none 0 0) :
    GX w p B P C A bs c d bx X Q ct pa (.slice none 0 0) [] K (((W.setCell ⟨Q, 0, none⟩ (.int .i64 ct)).setCell ⟨Q, 1, none⟩ (.int .i64 pa)).setCell ⟨Q, 2, none⟩ (.slice none 0 0)) := by
  have hK : Kept (fun q => q = Q) W (((W.setCell ⟨Q, 0, none⟩ (.int .i64 ct)).setCell ⟨Q, 1, none⟩ (.int .i64 pa)).setCell ⟨Q, 2, none⟩ (.slice none 0 0)) :=
    (((Kept.refl _ W).setCell (S := fun q => q = Q) (p := ⟨Q, 0, none⟩) rfl _).setCell (S := fun q => q = Q) (p := ⟨Q, 1, none⟩) rfl _).setCell (S := fun q => q = Q) (p := ⟨Q, 2, none⟩) rfl _
  have h1 := heap_setCell_same W Q 0 _ _ (.int .i64 ct) hq
  have h2 := heap_setCell_same _ Q 1 _ _ (.int .i64 pa) h1
  have h3 := heap_setCell_same _ Q 2 _ _ (.slice none 0 0) h2
  have e : ((cs.setIfInBounds 0 (.int .i64 ct)).setIfInBounds 1 (.int .i64 pa)).setIfInBounds 2 (.slice none 0 0) = #[.int .i64 ct, .int .i64 pa, .slice none 0 0] := by
    obtain ⟨l⟩ := cs
    match l, hcs with
    | [a, b, c], _ => rfl
  rw [e] at h3
  exact { gs := h.aside hpB hBC hPC hnv (fun g hg' e => by subst e; exact ownsT h.O hq (by decide) hg') (fun g hg' e => by subst e; exact ownsT h.I hq (by decide) hg') hsv hK (fun q hq => by omega)
          nx := h3, lk := none_row, lt := hlt, nv := hnv, sv := hsv }
end

end Go.Proofs.YtijkdpdmclkmlaaGreatDoor
