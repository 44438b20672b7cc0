/- Elements: ions and atoms of the program, agents: walked. -/
import Derived.Test.YtijkdpdmclkmlaaGreatDoorProg
import Derived.Test.YtijkdpdmclkmlaaGreatDoorJ0
import Derived.Test.YtijkdpdmclkmlaaGreatDoorJ44
import Derived.Test.YtijkdpdmclkmlaaGreatDoorJ21
import Derived.BigQuiet
set_option linter.unusedSimpArgs false
set_option linter.unusedVariables false
set_option maxRecDepth 100000
set_option maxHeartbeats 16000000
namespace Go.Proofs.YtijkdpdmclkmlaaGreatDoor
open Go.RowKit
theorem implAtomOf_any (sig : List Ct) (ct : Int) (A : Option Addr) (c : Nat) (names : List ByteArray) (gv : Value) (w : World) (hz : SmallS sig) (hcap : CapOk gv) (hl : names.length ≤ 1000) (hn : ∀ s ∈ names, s.size ≤ 1000) (hS : RSl RCt 3 w gv sig) (hA : Cells w A (strs names)) :
    Calls Tryz.prog 35 #[gv, .int .i64 ct, .slice A names.length c] w fun e w' => ∃ X : BX, e = .returned (.tuple #[.agg X.cells, .bool (ionB sig ct names)]) ∧ X.g = (if ionB sig ct names then atomG ct names (sortS names) else zeroG) ∧ RG w w' X := by
  have HS := Lib.hid (show ∀ W, Below w.heap.size w W → RSl RCt 3 W gv sig from fun W hb => hS.below RCt_keep hb)
  have HA := Lib.hid (show ∀ W, Below w.heap.size w W → Cells W A (strs names) from fun W hb => hA.below hb)
  obtain ⟨w0, hw0, hb0, hs0, hR0⟩ := laid1 w (.cells ZB 31)
  have HB0 := Lib.hid hb0
  have HR0 := Lib.hid hR0
  have hc := single_any sig ct A c names gv w0 hz hcap hl hn (HS.out w0 hb0) (HA.out w0 hb0)
  have HW0 := Lib.hid (show w.alloc (.cells #[.int .i64 0, .slice none 0 0, .slice none 0 0, .int .i64 0, .slice none 0 0, .slice none 0 0] 31) = w0 from hw0.symm)
  clear hb0 hR0 hw0
  obtain ⟨AG, cG, rfl, _⟩ := hS.form
  obtain ⟨o, ho⟩ : ∃ o, o = ionB sig ct names := ⟨_, rfl⟩
  obtain ⟨gX, hg⟩ : ∃ gX, gX = (if o then atomG ct names (sortS names) else zeroG) := ⟨_, rfl⟩
  rw [← ho, ← hg] at hc
  rw [← ho, ← hg]
  have HC := Lib.hid hc
  clear hc ho hg
  have HB1 := Lib.hid (Below.refl w0.heap.size w0)
  clear hS hA hn hz hcap
  go_enter Tryz.func35, Tryz.ntmps35
  go_wp2_with fail
  rw [HW0.out]
  (with_reducible refine HC.out.mono ?_)
  rintro e w9 ⟨X, rfl, hXg, hr⟩
  obtain ⟨xr, xe, xnv, xsv, xov, xiv, xns, xls, xss, xos, xis⟩ := X
  obtain ⟨YN, dN, YS, dS, YO, dO, YI, dI, e1, e2, e3, e4⟩ := hr.ob.form
  dsimp only at e1 e2 e3 e4
  subst e1 e2 e3 e4
  have HXG := Lib.hid hXg
  have HB9 := Lib.hid (HB1.out.trans (hr.bel.mono HB1.out.size))
  have hsw := HB1.out.size
  have HR := Lib.hid hr
  clear hXg hr HC
  simp only [BX.cells]
  have hRW := (HB9.out.block w.heap.size (by omega)).trans HR0.out
  obtain ⟨z0, z1, z2, z3, z4, z5, f0, f1, f2, f3, f4, f5⟩ := row6f hRW
  clear hRW
  go_wp2_with fail
  have hf := fin6_of (X := ⟨xr, xe, .slice YN xns.length dN, .slice YS xss.length dS, .slice YO xos.length dO, .slice YI xis.length dI, xns, xls, xss, xos, xis⟩) HB0.out HR0.out (by have := (Kept.of_below HB9.out (fun q => w.heap.size + 1 ≤ q)).size; omega) ((Kept.of_below HB9.out (fun q => w.heap.size + 1 ≤ q))) (HR.out.ob.mono (by omega))
  (try simp only [Exit.inBlock, Exit.then])
  refine bodyPost_ret (rcell2 rfl _ _ w.heap.size _ _ _ _ rfl hf.1 Tryz.underlying31 rfl (by kernel_rfl)) rfl ?_
  exact ⟨_, rfl, HXG.out, hf.2⟩

theorem implIonOf_any (sig : List Ct) (ct : Int) (A : Option Addr) (c : Nat) (names : List ByteArray) (gv : Value) (w : World) (hz : SmallS sig) (hcap : CapOk gv) (hl : names.length ≤ 1000) (hn : ∀ s ∈ names, s.size ≤ 1000) (hS : RSl RCt 3 w gv sig) (hA : Cells w A (strs names)) :
    Calls Tryz.prog 33 #[gv, .int .i64 ct, .slice A names.length c] w fun e w' => ∃ X : BX, e = .returned (.tuple #[.agg X.cells, .bool (okI sig ct names)]) ∧ X.g = (if okI sig ct names then ionG ct names (sortS names) else zeroG) ∧ RG w w' X := by
  have HS := Lib.hid (show ∀ W, Below w.heap.size w W → RSl RCt 3 W gv sig from fun W hb => hS.below RCt_keep hb)
  have HA := Lib.hid (show ∀ W, Below w.heap.size w W → Cells W A (strs names) from fun W hb => hA.below hb)
  obtain ⟨w0, hw0, hb0, hs0, hR0⟩ := laid1 w (.cells ZB 31)
  have HB0 := Lib.hid hb0
  have HR0 := Lib.hid hR0
  have HC := Lib.hid (single_any sig ct A c names gv w0 hz hcap hl hn (HS.out w0 hb0) (HA.out w0 hb0))
  have HW0 := Lib.hid (show w.alloc (.cells #[.int .i64 0, .slice none 0 0, .slice none 0 0, .int .i64 0, .slice none 0 0, .slice none 0 0] 31) = w0 from hw0.symm)
  clear hb0 hR0 hw0
  have hsl := hz.len
  have HPT := Lib.hid (show okI sig ct names = (ionB sig ct names && !(kindA sig ct == 2)) from rfl)
  have HB1 := Lib.hid (Below.refl w0.heap.size w0)
  obtain ⟨AG, cG, rfl, _⟩ := hS.form
  clear hS hA hn hz hcap
  cases c0 : ionB sig ct names
  · have HE := Lib.hid (show okI sig ct names = false from by rw [HPT.out, c0]; rfl)
    rw [c0] at HC
    rw [HE.out]
    clear c0
    go_enter Tryz.func33, Tryz.ntmps33
    go_wp2_with fail
    rw [HW0.out]
    (with_reducible refine HC.out.mono ?_)
    rintro e w2 ⟨X, rfl, hXg, hr⟩
    obtain ⟨xr, xe, xns, xls, xss, xos, xis, AN, cN, AS, cS, AO, cO, AI, cI, rfl⟩ := hr.ob.open
    simp only [BX.cells]
    obtain ⟨wN, hwN, hbn, hsn, -⟩ := laid1 w2 (.cells #[.int .i64 xr, .slice AN xns.length cN, .slice AS xss.length cS, .int .i64 xe, .slice AO xos.length cO, .slice AI xis.length cI] 31)
    have HB2 := Lib.hid (hr.bel.trans (hbn.mono hr.bel.size))
    have HWN := Lib.hid hwN
    clear HC hXg hr hwN hbn
    have hRW := (HB2.out.block w.heap.size (by omega)).trans HR0.out
    obtain ⟨z0, z1, z2, z3, z4, z5, f0, f1, f2, f3, f4, f5⟩ := row6f hRW
    clear hRW
    go_wp2_with (rw [← HWN.out])
    have hf := fin6_of (X := zeroX) HB0.out HR0.out (by have := (Kept.of_below HB2.out (fun q => w.heap.size + 1 ≤ q)).size; omega) ((Kept.of_below HB2.out (fun q => w.heap.size + 1 ≤ q))) (zero_ob _ _)
    (try simp only [Exit.inBlock, Exit.then])
    refine bodyPost_ret (rcell2 rfl _ _ w.heap.size _ _ _ _ rfl hf.1 Tryz.underlying31 rfl (by kernel_rfl)) rfl ?_
    exact ⟨_, rfl, rfl, hf.2⟩
  have hin : inB ct 0 ((sig.length : Int) - 1) = true := by
    unfold ionB at c0
    simp only [Bool.and_eq_true] at c0
    exact c0.1.1.2
  obtain ⟨z0', z1'⟩ := inB_true hin
  obtain ⟨m, rfl⟩ := Int.eq_ofNat_of_zero_le z0'
  have hml : m < sig.length := by omega
  have HPO := Lib.hid (show kindA sig (m : Int) = sig[m].2.2 from by unfold kindA; rw [Int.toNat_natCast, ctA_get hml])
  rw [HPO.out, c0] at HPT
  rw [c0] at HC
  have q0 : (0 : Int) ≤ (m : Int) := by omega
  have q1 : (m : Int) < (sig.length : Int) := by omega
  clear c0 hin z0' z1'
  cases c1 : (sig[m].2.2 == 2)
  · have HE := Lib.hid (show okI sig (m : Int) names = true from by rw [HPT.out, c1]; rfl)
    rw [HE.out]
    go_enter Tryz.func33, Tryz.ntmps33
    go_wp2_with fail
    rw [HW0.out]
    (with_reducible refine HC.out.mono ?_)
    rintro e w2 ⟨X, rfl, hXg, hr⟩
    obtain ⟨xr, xe, xns, xls, xss, xos, xis, AN, cN, AS, cS, AO, cO, AI, cI, rfl⟩ := hr.ob.open
    have HXG := Lib.hid hXg
    have hs2 := hr.bel.size
    have HR := Lib.hid hr
    simp only [BX.cells]
    obtain ⟨wN, hwN, hbn, hsN, -⟩ := laid1 w2 (.cells #[.int .i64 xr, .slice AN xns.length cN, .slice AS xss.length cS, .int .i64 xe, .slice AO xos.length cO, .slice AI xis.length cI] 31)
    have HG0 := Lib.hid (gt_of_rg HR.out (show w.heap.size + 1 ≤ w0.heap.size by omega) (wN := wN) hwN)
    have HBN := Lib.hid (HB0.out.trans ((hr.bel.trans (hbn.mono hr.bel.size)).mono HB0.out.size))
    have HRN := Lib.hid (((hr.bel.trans (hbn.mono hr.bel.size)).block w.heap.size (by omega)).trans HR0.out)
    obtain ⟨b', o', c', eS, _, _, s2⟩ := ct_at (HS.out wN HBN.out) hml
    cases eS
    obtain ⟨y, hy⟩ : ∃ y, y = sig[m].2.2 := ⟨_, rfl⟩
    rw [← hy] at s2 c1
    have HWN := Lib.hid hwN
    obtain ⟨w5, hw5⟩ : ∃ w5, w5 = wN.alloc (.cells #[.int .i64 0] 3) := ⟨_, rfl⟩
    have HG1 := Lib.hid (show GT wN (w.heap.size + 1) w2.heap.size (BX.cells ⟨xr, xe, .slice AN xns.length cN, .slice AS xss.length cS, .slice AO xos.length cO, .slice AI xis.length cI, xns, xls, xss, xos, xis⟩) ⟨xr, xe, .slice AN xns.length cN, .slice (some ⟨w2.heap.size + 1, 0, none⟩) 1 1, .slice AO xos.length cO, .slice AI xis.length cI, xns, xls, [0], xos, xis⟩ w5 from by rw [hw5, ← hsN]; exact HG0.out.newS [0] (by decide) (by omega))
    have HW5 := Lib.hid hw5
    have y2 := HG1.out.cell (f := 2) (u := .slice AS xss.length cS) rfl
    have g2 := frozen_of_row w5 w2.heap.size 2 _ _ HG1.out.box
    have HG := Lib.hid (HG1.out.put 2 (.slice (some ⟨w2.heap.size + 1, 0, none⟩) 1 1))
    have hw2P : w.heap.size < w2.heap.size := by omega
    clear hwN hbn hw5 hXg hr HC hy
    have x0 := HG.out.cell (f := 0) (u := .int .i64 xr) rfl
    have x1 := HG.out.cell (f := 1) (u := .slice AN xns.length cN) rfl
    have x2 := HG.out.cell (f := 2) (u := .slice (some ⟨w2.heap.size + 1, 0, none⟩) 1 1) rfl
    have x3 := HG.out.cell (f := 3) (u := .int .i64 xe) rfl
    have x4 := HG.out.cell (f := 4) (u := .slice AO xos.length cO) rfl
    have x5 := HG.out.cell (f := 5) (u := .slice AI xis.length cI) rfl
    have hRW := (HG.out.k.block w.heap.size (by have := (Array.getElem?_eq_some_iff.1 HRN.out).1; exact this) (by omega)).trans HRN.out
    obtain ⟨z0, z1, z2, z3, z4, z5, f0, f1, f2, f3, f4, f5⟩ := row6f hRW
    clear hRW
    go_wp2_with (first | rw [← HWN.out] | rw [← HW5.out])
    have hf := fin6 HBN.out HRN.out (by omega) HG.out
    (try simp only [Exit.inBlock, Exit.then])
    refine bodyPost_ret (rcell2 rfl _ _ w.heap.size _ _ _ _ rfl hf.1 Tryz.underlying31 rfl (by kernel_rfl)) rfl ?_
    exact ⟨_, rfl, (by first | exact ion_of HXG.out | (rw [if_pos rfl]; exact ion_of HXG.out)), hf.2⟩
  have HE := Lib.hid (show okI sig (m : Int) names = false from by rw [HPT.out, c1]; rfl)
  rw [HE.out]
  go_enter Tryz.func33, Tryz.ntmps33
  go_wp2_with fail
  rw [HW0.out]
  (with_reducible refine HC.out.mono ?_)
  rintro e w2 ⟨X, rfl, hXg, hr⟩
  obtain ⟨xr, xe, xns, xls, xss, xos, xis, AN, cN, AS, cS, AO, cO, AI, cI, rfl⟩ := hr.ob.open
  simp only [BX.cells]
  obtain ⟨wN, hwN, hbn, hsn, -⟩ := laid1 w2 (.cells #[.int .i64 xr, .slice AN xns.length cN, .slice AS xss.length cS, .int .i64 xe, .slice AO xos.length cO, .slice AI xis.length cI] 31)
  have HB2 := Lib.hid (hr.bel.trans (hbn.mono hr.bel.size))
  have HWN := Lib.hid hwN
  obtain ⟨b', o', c', eS, _, _, s2⟩ := ct_at (HS.out wN (HB0.out.trans (HB2.out.mono HB0.out.size))) hml
  cases eS
  obtain ⟨y, hy⟩ : ∃ y, y = sig[m].2.2 := ⟨_, rfl⟩
  rw [← hy] at s2 c1
  clear HC hXg hr hwN hbn hy
  have hRW := (HB2.out.block w.heap.size (by omega)).trans HR0.out
  obtain ⟨z0, z1, z2, z3, z4, z5, f0, f1, f2, f3, f4, f5⟩ := row6f hRW
  clear hRW
  go_wp2_with (rw [← HWN.out])
  have hf := fin6_of (X := zeroX) HB0.out HR0.out (by have := (Kept.of_below HB2.out (fun q => w.heap.size + 1 ≤ q)).size; omega) ((Kept.of_below HB2.out (fun q => w.heap.size + 1 ≤ q))) (zero_ob _ _)
  (try simp only [Exit.inBlock, Exit.then])
  refine bodyPost_ret (rcell2 rfl _ _ w.heap.size _ _ _ _ rfl hf.1 Tryz.underlying31 rfl (by kernel_rfl)) rfl ?_
  exact ⟨_, rfl, rfl, hf.2⟩
def closB (g : Gr) : Bool := ((g.sites.length : Int) == 0) && ((g.inner.length : Int) == 0)
def agentR (sig : List Ct) (g : Gr) : Bool := goodG sig g && closB g

theorem isClosed_any (g : Gr) (nv sv ov iv : Value) (w : World) (hG : RGr w nv sv ov iv g) :
    Calls Tryz.prog 126 #[.agg #[.int .i64 g.roots, nv, sv, .int .i64 g.edges, ov, iv]] w fun e w' => e = .returned (.bool (closB g)) ∧ Below w.heap.size w w' := by
  obtain ⟨AN, cN, AS, cS, AO, cO, AI, cI, rfl, rfl, rfl, rfl⟩ := hG.form
  obtain ⟨w0, hw0, hb0, -, bx0⟩ := laid1 w (.cells #[.int .i64 g.roots, .slice AN g.nodes.length cN, .slice AS g.sites.length cS, .int .i64 g.edges, .slice AO g.outer.length cO, .slice AI g.inner.length cI] 31)
  obtain ⟨x0, x1, x2, x3, x4, x5⟩ := row6 bx0
  have HW0 := Lib.hid hw0
  have HB0 := Lib.hid hb0
  have HPT := Lib.hid (show closB g = (((g.sites.length : Int) == 0) && ((g.inner.length : Int) == 0)) from rfl)
  clear hw0 hb0 bx0 hG
  cases c0 : ((g.sites.length : Int) == 0)
  · have HE := Lib.hid (show closB g = false from by rw [HPT.out, c0]; rfl)
    go_enter Tryz.func126, Tryz.ntmps126
    go_wp2_with (rw [← HW0.out])
    go_ret
    exact ⟨by rw [HE.out]; rfl, HB0.out⟩
  have HE := Lib.hid (show closB g = ((g.inner.length : Int) == 0) from by rw [HPT.out, c0]; rfl)
  go_enter Tryz.func126, Tryz.ntmps126
  go_wp2_with (rw [← HW0.out])
  go_ret
  exact ⟨by rw [HE.out]; rfl, HB0.out⟩

theorem isAgent_any (sig : List Ct) (g : Gr) (nv sv ov iv gv : Value) (w : World) (hs : SmallG g) (hz : SmallS sig) (hcap : CapOk gv) (hS : RSl RCt 3 w gv sig) (hG : RGr w nv sv ov iv g) :
    Calls Tryz.prog 48 #[gv, .agg #[.int .i64 g.roots, nv, sv, .int .i64 g.edges, ov, iv]] w fun e w' => e = .returned (.bool (agentR sig g)) ∧ Below w.heap.size w w' := by
  have HG := Lib.hid (show ∀ W, Below w.heap.size w W → RGr W nv sv ov iv g from fun W hb => hG.below hb)
  obtain ⟨AN, cN, AS, cS, AO, cO, AI, cI, rfl, rfl, rfl, rfl⟩ := hG.form
  obtain ⟨AG, cG, rfl, _⟩ := hS.form
  obtain ⟨w0, hw0, hb0, -, bx0⟩ := laid1 w (.cells #[.int .i64 g.roots, .slice AN g.nodes.length cN, .slice AS g.sites.length cS, .int .i64 g.edges, .slice AO g.outer.length cO, .slice AI g.inner.length cI] 31)
  have H1 := Lib.hid (isBigraph_any sig g _ _ _ _ _ w0 hs hz hcap (hS.below RCt_keep hb0) (HG.out w0 hb0))
  have HX := Lib.hid (keepB bx0)
  obtain ⟨x0, x1, x2, x3, x4, x5⟩ := row6 bx0
  have HB0 := Lib.hid hb0
  have HW0 := Lib.hid hw0
  have HPT := Lib.hid (show agentR sig g = (goodG sig g && closB g) from rfl)
  rw [hw0] at x0 x1 x2 x3 x4 x5
  clear hb0 hw0 bx0 hS hG hz hs hcap
  cases c0 : goodG sig g
  all_goals
    rw [c0] at H1
    go_enter Tryz.func48, Tryz.ntmps48
    go_wp2_with fail
    rw [← HW0.out]
    (with_reducible refine H1.out.mono ?_)
    rintro e w1 ⟨rfl, hb⟩
    clear x0 x1 x2 x3 x4 x5
  · have HE := Lib.hid (show agentR sig g = false from by rw [HPT.out, c0]; rfl)
    have HB := Lib.hid (HB0.out.trans (hb.mono HB0.out.size))
    clear hb
    go_wp2_with fail
    go_ret
    exact ⟨by rw [HE.out]; rfl, HB.out⟩
  obtain ⟨x0, x1, x2, x3, x4, x5⟩ := row6 (HX.out w1 hb)
  have HE := Lib.hid (show agentR sig g = closB g from by rw [HPT.out, c0]; rfl)
  have HB := Lib.hid (HB0.out.trans (hb.mono HB0.out.size))
  have H2 := Lib.hid (isClosed_any g _ _ _ _ w1 (HG.out w1 (HB0.out.trans (hb.mono HB0.out.size))))
  clear hb
  go_wp2_with fail
  (with_reducible refine H2.out.mono ?_)
  rintro e w2 ⟨rfl, hb⟩
  have HB3 := Lib.hid (HB.out.trans (hb.mono HB.out.size))
  clear hb
  go_wp2_with fail
  go_ret
  exact ⟨by rw [HE.out]; rfl, HB3.out⟩

end Go.Proofs.YtijkdpdmclkmlaaGreatDoor
