/- Elements of the reference: ions: walked. The inverse, as both packages make it: one and the same. -/
import Derived.Test.YtijkdpdmclkmlaaGreatDoorProg
import Derived.Test.YtijkdpdmclkmlaaGreatDoorJ0
import Derived.Test.YtijkdpdmclkmlaaGreatDoorJ28
import Derived.BigQuiet
import Derived.Test.YtijkdpdmclkmlaaGreatDoorJ8
import Derived.Test.YtijkdpdmclkmlaaGreatDoorJ5
import Derived.Test.YtijkdpdmclkmlaaGreatDoorJ14
import Derived.Test.YtijkdpdmclkmlaaGreatDoorJ9
set_option linter.unusedSimpArgs false
set_option linter.unusedVariables false
set_option maxRecDepth 100000
set_option maxHeartbeats 16000000
namespace Go.Proofs.YtijkdpdmclkmlaaGreatDoor
open Go.RowKit
def okI (sig : List Ct) (ct : Int) (names : List ByteArray) : Bool := ionB sig ct names && !(kindA sig ct == 2)

theorem specIonOf_any (sig : List Ct) (ct : Int) (A : Option Addr) (c : Nat) (names : List ByteArray) (gv : Value) (w : World) (hz : SmallS sig) (hl : names.length ≤ 1000) (hn : ∀ s ∈ names, s.size ≤ 1000) (hS : RSl RCt 3 w gv sig) (hA : Cells w A (strs names)) :
    Calls Tryz.prog 34 #[gv, .int .i64 ct, .slice A names.length c] w fun e w' => ∃ X : BX, e = .returned (.tuple #[.agg X.cells, .bool (okI sig ct names)]) ∧ X.g = (if okI sig ct names then ionG ct names (sortS names) else zeroG) ∧ RG w w' X := by
  have HS := Lib.hid (show ∀ W, Below w.heap.size w W → RSl RCt 3 W gv sig from fun W hb => hS.below RCt_keep hb)
  have HA := Lib.hid (show ∀ W, Below w.heap.size w W → Cells W A (strs names) from fun W hb => hA.below hb)
  obtain ⟨w0, hw0, hb0, hs0, hR0⟩ := laid1 w (.cells ZB 31)
  have HB0 := Lib.hid hb0
  have HR0 := Lib.hid hR0
  have H1 := Lib.hid (l3Ion_any sig ct A c names gv w0 hz hl hn (HS.out w0 hb0) (HA.out w0 hb0))
  have HW0 := Lib.hid (show w.alloc (.cells #[.int .i64 0, .slice none 0 0, .slice none 0 0, .int .i64 0, .slice none 0 0, .slice none 0 0] 31) = w0 from hw0.symm)
  clear hb0 hR0 hw0
  have hsl := hz.len
  have HPT := Lib.hid (show okI sig ct names = (ionB sig ct names && !(kindA sig ct == 2)) from rfl)
  obtain ⟨AG, cG, rfl, _⟩ := hS.form
  clear hS hA hn hz
  cases c0 : ionB sig ct names
  · have HE := Lib.hid (show okI sig ct names = false from by rw [HPT.out, c0]; rfl)
    rw [c0] at H1
    rw [HE.out]
    clear c0
    go_enter Tryz.func34, Tryz.ntmps34
    go_wp2_with fail
    rw [HW0.out]
    (with_reducible refine H1.out.mono ?_)
    rintro e w1 ⟨rfl, hb1⟩
    have HB1 := Lib.hid hb1
    clear hb1
    have hRW := (HB1.out.block w.heap.size (by omega)).trans HR0.out
    obtain ⟨z0, z1, z2, z3, z4, z5, f0, f1, f2, f3, f4, f5⟩ := row6f hRW
    clear hRW
    go_wp2_with fail
    have hf := fin6_of (X := zeroX) HB0.out HR0.out (by have := (Kept.of_below HB1.out (fun q => w.heap.size + 1 ≤ q)).size; omega) ((Kept.of_below HB1.out (fun q => w.heap.size + 1 ≤ q))) (zero_ob _ _)
    (try simp only [Exit.inBlock, Exit.then])
    refine bodyPost_ret (rcell2 rfl _ _ w.heap.size _ _ _ _ rfl hf.1 Tryz.underlying31 rfl (by kernel_rfl)) rfl ?_
    exact ⟨_, rfl, rfl, hf.2⟩
  have hin : inB ct 0 ((sig.length : Int) - 1) = true := by
    unfold ionB at c0
    simp only [Bool.and_eq_true] at c0
    exact c0.1.1.2
  obtain ⟨z0', z1'⟩ := inB_true hin
  obtain ⟨m, rfl⟩ := Int.eq_ofNat_of_zero_le z0'
  have hml : m < sig.length := by omega
  have HPO := Lib.hid (show kindA sig (m : Int) = sig[m].2.2 from by unfold kindA; rw [Int.toNat_natCast, ctA_get hml])
  rw [HPO.out, c0] at HPT
  rw [c0] at H1
  have q0 : (0 : Int) ≤ (m : Int) := by omega
  have q1 : (m : Int) < (sig.length : Int) := by omega
  clear c0 hin z0' z1'
  cases c1 : (sig[m].2.2 == 2)
  · have HE := Lib.hid (show okI sig (m : Int) names = true from by rw [HPT.out, c1]; rfl)
    rw [HE.out]
    go_enter Tryz.func34, Tryz.ntmps34
    go_wp2_with fail
    rw [HW0.out]
    (with_reducible refine H1.out.mono ?_)
    rintro e w1 ⟨rfl, hb1⟩
    obtain ⟨b', o', c', eS, _, _, s2⟩ := ct_at (HS.out w1 (HB0.out.trans (hb1.mono HB0.out.size))) hml
    cases eS
    have HAT := Lib.hid (l3Atom_any (m : Int) A c names w1 hl (HA.out w1 (HB0.out.trans (hb1.mono HB0.out.size))))
    have HB1 := Lib.hid hb1
    have hs1 := hb1.size
    obtain ⟨y, hy⟩ : ∃ y, y = sig[m].2.2 := ⟨_, rfl⟩
    rw [← hy] at s2 c1
    clear hb1 hy
    go_wp2_with fail
    (with_reducible refine HAT.out.mono ?_)
    rintro e w2 ⟨X, rfl, hXg, hr⟩
    obtain ⟨xr, xe, xnv, xsv, xov, xiv, xns, xls, xss, xos, xis⟩ := X
    obtain ⟨AN, cN, AS, cS, AO, cO, AI, cI, e1, e2, e3, e4⟩ := hr.ob.form
    dsimp only at e1 e2 e3 e4
    subst e1 e2 e3 e4
    have HXG := Lib.hid hXg
    have hs2 := hr.bel.size
    have HB2 := Lib.hid (HB1.out.trans (hr.bel.mono HB1.out.size))
    have HR := Lib.hid hr
    clear hXg hr HAT s2 H1
    simp only [BX.cells]
    obtain ⟨wN, hwN, hbn, hsN, -⟩ := laid1 w2 (.cells #[.int .i64 xr, .slice AN xns.length cN, .slice AS xss.length cS, .int .i64 xe, .slice AO xos.length cO, .slice AI xis.length cI] 31)
    have HG0 := Lib.hid (gt_of_rg HR.out (show w.heap.size + 1 ≤ w1.heap.size by omega) (wN := wN) hwN)
    have HBN := Lib.hid (HB0.out.trans ((HB2.out.trans (hbn.mono HB2.out.size)).mono HB0.out.size))
    have HRN := Lib.hid (((HB2.out.trans (hbn.mono HB2.out.size)).block w.heap.size (by omega)).trans HR0.out)
    have HWN := Lib.hid hwN
    obtain ⟨w5, hw5⟩ : ∃ w5, w5 = wN.alloc (.cells #[.int .i64 0] 3) := ⟨_, rfl⟩
    have HG1 := Lib.hid (show GT wN (w.heap.size + 1) w2.heap.size (BX.cells ⟨xr, xe, .slice AN xns.length cN, .slice AS xss.length cS, .slice AO xos.length cO, .slice AI xis.length cI, xns, xls, xss, xos, xis⟩) ⟨xr, xe, .slice AN xns.length cN, .slice (some ⟨w2.heap.size + 1, 0, none⟩) 1 1, .slice AO xos.length cO, .slice AI xis.length cI, xns, xls, [0], xos, xis⟩ w5 from by rw [hw5, ← hsN]; exact HG0.out.newS [0] (by decide) (by omega))
    have HW5 := Lib.hid hw5
    have y2 := HG1.out.cell (f := 2) (u := .slice AS xss.length cS) rfl
    have g2 := frozen_of_row w5 w2.heap.size 2 _ _ HG1.out.box
    have HG := Lib.hid (HG1.out.put 2 (.slice (some ⟨w2.heap.size + 1, 0, none⟩) 1 1))
    have hw2P : w.heap.size < w2.heap.size := by omega
    clear hwN hbn hw5
    have x0 := HG.out.cell (f := 0) (u := .int .i64 xr) rfl
    have x1 := HG.out.cell (f := 1) (u := .slice AN xns.length cN) rfl
    have x2 := HG.out.cell (f := 2) (u := .slice (some ⟨w2.heap.size + 1, 0, none⟩) 1 1) rfl
    have x3 := HG.out.cell (f := 3) (u := .int .i64 xe) rfl
    have x4 := HG.out.cell (f := 4) (u := .slice AO xos.length cO) rfl
    have x5 := HG.out.cell (f := 5) (u := .slice AI xis.length cI) rfl
    have hRW := (HG.out.k.block w.heap.size (by have := (Array.getElem?_eq_some_iff.1 HRN.out).1; exact this) (by omega)).trans HRN.out
    obtain ⟨z0, z1, z2, z3, z4, z5, f0, f1, f2, f3, f4, f5⟩ := row6f hRW
    clear hRW
    go_wp2_with (first | rw [← HWN.out] | rw [← HW5.out])
    have hf := fin6 HBN.out HRN.out (by omega) HG.out
    (try simp only [Exit.inBlock, Exit.then])
    refine bodyPost_ret (rcell2 rfl _ _ w.heap.size _ _ _ _ rfl hf.1 Tryz.underlying31 rfl (by kernel_rfl)) rfl ?_
    exact ⟨_, rfl, (by first | exact ion_of HXG.out | (rw [if_pos rfl]; exact ion_of HXG.out)), hf.2⟩
  have HE := Lib.hid (show okI sig (m : Int) names = false from by rw [HPT.out, c1]; rfl)
  rw [HE.out]
  go_enter Tryz.func34, Tryz.ntmps34
  go_wp2_with fail
  rw [HW0.out]
  (with_reducible refine H1.out.mono ?_)
  rintro e w1 ⟨rfl, hb1⟩
  obtain ⟨b', o', c', eS, _, _, s2⟩ := ct_at (HS.out w1 (HB0.out.trans (hb1.mono HB0.out.size))) hml
  cases eS
  have HB1 := Lib.hid hb1
  obtain ⟨y, hy⟩ : ∃ y, y = sig[m].2.2 := ⟨_, rfl⟩
  rw [← hy] at s2 c1
  clear hb1 hy
  have hRW := (HB1.out.block w.heap.size (by omega)).trans HR0.out
  obtain ⟨z0, z1, z2, z3, z4, z5, f0, f1, f2, f3, f4, f5⟩ := row6f hRW
  clear hRW
  go_wp2_with fail
  have hf := fin6_of (X := zeroX) HB0.out HR0.out (by have := (Kept.of_below HB1.out (fun q => w.heap.size + 1 ≤ q)).size; omega) ((Kept.of_below HB1.out (fun q => w.heap.size + 1 ≤ q))) (zero_ob _ _)
  (try simp only [Exit.inBlock, Exit.then])
  refine bodyPost_ret (rcell2 rfl _ _ w.heap.size _ _ _ _ rfl hf.1 Tryz.underlying31 rfl (by kernel_rfl)) rfl ?_
  exact ⟨_, rfl, rfl, hf.2⟩

theorem names_asc {l : List ByteArray} (h : namesB l = true) : AscS l := by
  unfold AscS
  rw [List.pairwise_iff_getElem]
  intro i j hi hj hij
  have := names_lt h j i hij hj
  rw [getD_some (List.getElem?_eq_getElem hi), getD_some (List.getElem?_eq_getElem hj)] at this
  exact this
theorem least_ex (P : Nat → Prop) : ∀ n, (∃ k, k < n ∧ P k) → ∃ k, k < n ∧ P k ∧ ∀ j, j < k → ¬ P j
  | 0, ⟨k, h, _⟩ => absurd h (Nat.not_lt_zero _)
  | n + 1, h => by
    by_cases h2 : ∃ k, k < n ∧ P k
    · obtain ⟨k, a, b, c⟩ := least_ex P n h2
      exact ⟨k, by omega, b, c⟩
    obtain ⟨k, a, b⟩ := h
    exact ⟨k, a, b, fun j hj hp => h2 ⟨j, by omega, hp⟩⟩
theorem idx_atS (l : List ByteArray) (s : ByteArray) : idxR l.length (fun k => decide (l.getD k default = s)) = atS l s := by
  by_cases h : ∃ k, k < l.length ∧ l.getD k default = s
  · obtain ⟨k, hk, h1, h2⟩ := least_ex _ _ h
    rw [idxR_some hk (fun j hj => decide_eq_false (h2 j hj)) (decide_eq_true h1), atS_some hk h1 h2]
  have h2 : ∀ j, j < l.length → l.getD j default ≠ s := fun j hj e => h ⟨j, hj, e⟩
  rw [idxR_none (fun j hj => decide_eq_false (h2 j hj)), atS_none h2]

section
variable {sig : List Ct} {g : Gr}
end

end Go.Proofs.YtijkdpdmclkmlaaGreatDoor
