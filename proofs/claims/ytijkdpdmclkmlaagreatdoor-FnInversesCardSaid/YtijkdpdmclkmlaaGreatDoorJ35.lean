/- The draw of InverseOf's argument. -/
import Derived.Test.YtijkdpdmclkmlaaGreatDoorProg
import Derived.Test.YtijkdpdmclkmlaaGreatDoorJ0
import Derived.Test.YtijkdpdmclkmlaaGreatDoorJ34
import Derived.BigQuiet
import Derived.Test.YtijkdpdmclkmlaaGreatDoorJ2
import Derived.IntWalk
set_option linter.unusedSimpArgs false
set_option linter.unusedVariables false
set_option maxRecDepth 100000
set_option maxHeartbeats 16000000
namespace Go.Proofs.YtijkdpdmclkmlaaGreatDoor
open Go.RowKit
theorem size_two {s : ByteArray} (hs : s ∈ ([⟨#[97]⟩, ⟨#[120]⟩] : List ByteArray)) : s.size ≤ 100 := by
 simp only [List.mem_cons, List.not_mem_nil, or_false] at hs
 rcases hs with rfl | rfl <;> decide
theorem sub_call (kn g1 g2 : Nat) (s : ByteArray) (W : World) (hk1 : 1 ≤ kn) (hk3 : kn ≤ 3) (h1 : W.heap[g1]? = some (.cells #[.string ⟨#[97]⟩, .string ⟨#[98]⟩, .string ⟨#[121]⟩] 9)) (h2 : W.heap[g2]? = some (.cells #[.string ⟨#[120]⟩, .string s, .string ⟨#[99]⟩] 9)) (hs : s.size ≤ 100) :
  Calls Tryz.prog 123 #[.slice (some ⟨g1, 0, none⟩) kn 3, .slice (some ⟨g2, 0, none⟩) kn 3] W fun e w' => ∃ gg AN cN AS cS AO cO AI cI, e = .returned (.agg #[.int .i64 gg.roots, .slice AN gg.nodes.length cN, .slice AS gg.sites.length cS, .int .i64 gg.edges, .slice AO gg.outer.length cO, .slice AI gg.inner.length cI]) ∧ RK W.heap.size w' (.slice AN gg.nodes.length cN) (.slice AS gg.sites.length cS) (.slice AO gg.outer.length cO) (.slice AI gg.inner.length cI) gg ∧ SmallG gg ∧ Below W.heap.size W w' := by
 have h1' : Cells W (some ⟨g1, 0, none⟩) (strs (([⟨#[97]⟩, ⟨#[98]⟩, ⟨#[121]⟩] : List ByteArray).take kn)) := by
  have h := cells_take0 (cellsG (cs := [.string ⟨#[97]⟩, .string ⟨#[98]⟩, .string ⟨#[121]⟩]) h1) kn
  unfold strs
  rw [List.map_take]
  exact h
 have h2' : Cells W (some ⟨g2, 0, none⟩) (strs (([⟨#[120]⟩, s, ⟨#[99]⟩] : List ByteArray).take kn)) := by
  have h := cells_take0 (cellsG (cs := [.string ⟨#[120]⟩, .string s, .string ⟨#[99]⟩]) h2) kn
  unfold strs
  rw [List.map_take]
  exact h
 obtain ⟨fr, hfr⟩ : ∃ fr, fr = ([⟨#[97]⟩, ⟨#[98]⟩, ⟨#[121]⟩] : List ByteArray).take kn := ⟨_, rfl⟩
 obtain ⟨tw, htw⟩ : ∃ tw, tw = ([⟨#[120]⟩, s, ⟨#[99]⟩] : List ByteArray).take kn := ⟨_, rfl⟩
 have hl1 : fr.length = kn := by rw [hfr, List.length_take]; show min kn 3 = kn; omega
 have hl2 : tw.length = kn := by rw [htw, List.length_take]; show min kn 3 = kn; omega
 have hz1 : ∀ x ∈ fr, x.size ≤ 1000 := fun x hx => by
  rw [hfr] at hx
  have hx := List.mem_of_mem_take hx
  simp only [List.mem_cons, List.not_mem_nil, or_false] at hx
  rcases hx with rfl | rfl | rfl <;> decide
 have hz2 : ∀ x ∈ tw, x.size ≤ 1000 := fun x hx => by
  rw [htw] at hx
  have hx := List.mem_of_mem_take hx
  simp only [List.mem_cons, List.not_mem_nil, or_false] at hx
  rcases hx with rfl | rfl | rfl
  ·decide
  ·omega
  decide
 rw [← hfr] at h1'
 rw [← htw] at h2'
 have hc := l3Substitution_any (some ⟨g1, 0, none⟩) (some ⟨g2, 0, none⟩) 3 3 fr tw W (by omega) (by omega) h1' h2'
 rw [hl1, hl2] at hc
 refine hc.mono ?_
 rintro e w' ⟨X, rfl, hXg, hr⟩
 obtain ⟨g, hg⟩ : ∃ g, g = X.g := ⟨_, rfl⟩
 have hsm : SmallG g := by
  rw [hg, hXg]
  exact subG_small (by omega) hz1 (by have := sortS_len tw; omega) (fun x hx => hz2 x (sortS_mem.1 hx))
 obtain ⟨xr, xe, xnv, xsv, xov, xiv, xns, xls, xss, xos, xis⟩ := X
 obtain ⟨AN', cN', AS', cS', AO', cO', AI', cI', e1, e2, e3, e4⟩ := hr.ob.form
 obtain rfl : xr = g.roots := (congrArg Gr.roots hg).symm
 obtain rfl : xns = g.nodes := (congrArg Gr.nodes hg).symm
 obtain rfl : xss = g.sites := (congrArg Gr.sites hg).symm
 obtain rfl : xe = g.edges := (congrArg Gr.edges hg).symm
 obtain rfl : xos = g.outer := (congrArg Gr.outer hg).symm
 obtain rfl : xis = g.inner := (congrArg Gr.inner hg).symm
 dsimp only at e1 e2 e3 e4
 subst e1 e2 e3 e4
 exact ⟨g, _, _, _, _, _, _, _, _, rfl, hr.ob.rk hsm, hsm, hr.bel⟩
def F9P (S p B : Nat) (w3 W : World) : Prop := ∃ gg AN cN AS cS AO cO AI cI, W.heap[S]? = some (.cells #[.int .i64 gg.roots, .slice AN gg.nodes.length cN, .slice AS gg.sites.length cS, .int .i64 gg.edges, .slice AO gg.outer.length cO, .slice AI gg.inner.length cI] 31) ∧ RK B W (.slice AN gg.nodes.length cN) (.slice AS gg.sites.length cS) (.slice AO gg.outer.length cO) (.slice AI gg.inner.length cI) gg ∧ SmallG gg ∧ Kept (fun q => q = p ∨ q = S) w3 W
theorem store9 {w3 W : World} {S p B : Nat} {g : Gr} {nv sv ov iv u0 u1 u2 u3 u4 u5 : Value} (hrb : W.heap[S]? = some (.cells #[.int .i64 0, .slice none 0 0, .slice none 0 0, .int .i64 0, .slice none 0 0, .slice none 0 0] 31)) (hkw : Kept (fun q => q = p) w3 W) (hB : S < B) (hrk : RK B W nv sv ov iv g) :
  ((((((W.setCell ⟨S, 0, none⟩ u0).setCell ⟨S, 1, none⟩ u1).setCell ⟨S, 2, none⟩ u2).setCell ⟨S, 3, none⟩ u3).setCell ⟨S, 4, none⟩ u4).setCell ⟨S, 5, none⟩ u5).heap[S]? = some (.cells #[u0, u1, u2, u3, u4, u5] 31) ∧
  RK B ((((((W.setCell ⟨S, 0, none⟩ u0).setCell ⟨S, 1, none⟩ u1).setCell ⟨S, 2, none⟩ u2).setCell ⟨S, 3, none⟩ u3).setCell ⟨S, 4, none⟩ u4).setCell ⟨S, 5, none⟩ u5) nv sv ov iv g ∧
  Kept (fun q => q = p ∨ q = S) w3 ((((((W.setCell ⟨S, 0, none⟩ u0).setCell ⟨S, 1, none⟩ u1).setCell ⟨S, 2, none⟩ u2).setCell ⟨S, 3, none⟩ u3).setCell ⟨S, 4, none⟩ u4).setCell ⟨S, 5, none⟩ u5) := by
 have e0 := heap_setCell_same W S 0 _ _ u0 hrb
 have e1 := heap_setCell_same _ S 1 _ _ u1 e0
 have e2 := heap_setCell_same _ S 2 _ _ u2 e1
 have e3 := heap_setCell_same _ S 3 _ _ u3 e2
 have e4 := heap_setCell_same _ S 4 _ _ u4 e3
 have e5 := heap_setCell_same _ S 5 _ _ u5 e4
 have hKF := (((((((Kept.refl (fun q => q = S) W).setCell (p := ⟨S, 0, none⟩) rfl u0).setCell (p := ⟨S, 1, none⟩) rfl u1).setCell (p := ⟨S, 2, none⟩) rfl u2).setCell (p := ⟨S, 3, none⟩) rfl u3).setCell (p := ⟨S, 4, none⟩) rfl u4).setCell (p := ⟨S, 5, none⟩) rfl u5)
 exact ⟨e5, fun W2 hk2 => hrk W2 ((hKF.mono fun q hq => by omega).trans hk2), (hkw.mono fun q hq => .inl hq).trans (hKF.mono fun q hq => .inr hq)⟩
theorem draw_end2 {w W0 w1 wf : World} {B : Nat} {gv nv sv ov iv : Value} {sig : List Ct} {g : Gr} (hD : DSig W0 w1 gv sig) (hR : RK B wf nv sv ov iv g) (hsm : SmallG g) (hKL : Kept (fun q => q = w.heap.size + 1 ∨ q = w.heap.size) w1 wf)
  (hB0 : Below w.heap.size w W0) (hK1 : Kept (fun q => q = w.heap.size + 1) W0 w1) (hs0 : W0.heap.size = w.heap.size + 1 + 1) (hB : w1.heap.size ≤ B) :
  ∃ gv' nv' sv' ov' iv' sig' g', Ending.returned (.tuple #[gv, .agg #[.int .i64 g.roots, nv, sv, .int .i64 g.edges, ov, iv]]) = Ending.returned (.tuple #[gv', .agg #[.int .i64 g'.roots, nv', sv', .int .i64 g'.edges, ov', iv']]) ∧ (∀ W, Kept (fun q => q < w.heap.size) wf W → DG W gv' nv' sv' ov' iv' sig' g') ∧ Below w.heap.size w wf := by
 have hs1 := hK1.size
 refine ⟨gv, nv, sv, ov, iv, sig, g, rfl, fun W hW => ?_, ?_⟩
 ·have hso := ownsK (ownsK hD.own hKL (fun q hq => by have := (hD.own.lt q hq).1; omega)) hW (fun q hq => by have := (hD.own.lt q hq).1; omega)
  exact { sg := ct_rsl hso hD.small.len, sz := hD.small, cap := owns_capOk hso, rg := hR _ (hW.mono fun q hq => by omega), sm := hsm }
 have k2 := (hK1.mono (T := fun q => w.heap.size ≤ q) (fun q hq => by omega)).trans (hKL.mono fun q hq => by omega)
 have k4 := (Kept.of_below hB0 (fun q => w.heap.size ≤ q)).trans k2
 exact ⟨k4.os, k4.tape, k4.output, k4.size, fun q hq => k4.block q hq (by omega)⟩
theorem store9f {w3 W : World} {S p B : Nat} {gg : Gr} {AN AS AO AI : Option Addr} {cN cS cO cI : Nat} (hrb : W.heap[S]? = some (.cells #[.int .i64 0, .slice none 0 0, .slice none 0 0, .int .i64 0, .slice none 0 0, .slice none 0 0] 31)) (hkw : Kept (fun q => q = p) w3 W) (hB : S < B) (hrk : RK B W (.slice AN gg.nodes.length cN) (.slice AS gg.sites.length cS) (.slice AO gg.outer.length cO) (.slice AI gg.inner.length cI) gg) (hsm : SmallG gg) :
  F9P S p B w3 ((((((W.setCell ⟨S, 0, none⟩ (.int .i64 gg.roots)).setCell ⟨S, 1, none⟩ (.slice AN gg.nodes.length cN)).setCell ⟨S, 2, none⟩ (.slice AS gg.sites.length cS)).setCell ⟨S, 3, none⟩ (.int .i64 gg.edges)).setCell ⟨S, 4, none⟩ (.slice AO gg.outer.length cO)).setCell ⟨S, 5, none⟩ (.slice AI gg.inner.length cI)) :=
 have h := store9 (u0 := .int .i64 gg.roots) (u1 := .slice AN gg.nodes.length cN) (u2 := .slice AS gg.sites.length cS) (u3 := .int .i64 gg.edges) (u4 := .slice AO gg.outer.length cO) (u5 := .slice AI gg.inner.length cI) hrb hkw hB hrk
 ⟨gg, AN, cN, AS, cS, AO, cO, AI, cI, h.1, h.2.1, hsm, h.2.2⟩
/-- The end of such a draw. -/
theorem draw_end {w W0 w1 wl wf : World} {B : Nat} {gv nv sv ov iv : Value} {sig : List Ct} {g : Gr} (hD : DSig W0 w1 gv sig) (hR : RK B wl nv sv ov iv g) (hsm : SmallG g) (hKL : Kept (fun q => q = w.heap.size + 1) w1 wl) (hKF : Kept (fun q => q = w.heap.size) wl wf)
  (hB0 : Below w.heap.size w W0) (hK1 : Kept (fun q => q = w.heap.size + 1) W0 w1) (hs0 : W0.heap.size = w.heap.size + 1 + 1) (hB : w1.heap.size ≤ B) :
  ∃ gv' nv' sv' ov' iv' sig' g', Ending.returned (.tuple #[gv, .agg #[.int .i64 g.roots, nv, sv, .int .i64 g.edges, ov, iv]]) = Ending.returned (.tuple #[gv', .agg #[.int .i64 g'.roots, nv', sv', .int .i64 g'.edges, ov', iv']]) ∧ (∀ W, Kept (fun q => q < w.heap.size) wf W → DG W gv' nv' sv' ov' iv' sig' g') ∧ Below w.heap.size w wf := by
 have hs1 := hK1.size
 refine ⟨gv, nv, sv, ov, iv, sig, g, rfl, fun W hW => ?_, ?_⟩
 ·have hKW := hKF.mono (T := fun q => q ≤ w.heap.size) (fun q hq => by omega)
  have hKX := hKW.trans (hW.mono fun q hq => by omega)
  have hso := ownsK (ownsK hD.own hKL (fun q hq => by have := (hD.own.lt q hq).1; omega)) hKX (fun q hq => by have := (hD.own.lt q hq).1; omega)
  exact { sg := ct_rsl hso hD.small.len, sz := hD.small, cap := owns_capOk hso, rg := hR _ (hKX.mono fun q hq => by omega), sm := hsm }
 have k2 := (hK1.trans hKL).mono (T := fun q => w.heap.size ≤ q) (fun q hq => by omega)
 have k3 := k2.trans (hKF.mono fun q hq => by omega)
 have k4 := (Kept.of_below hB0 (fun q => w.heap.size ≤ q)).trans k3
 exact ⟨k4.os, k4.tape, k4.output, k4.size, fun q hq => k4.block q hq (by omega)⟩
theorem drawInverseOf_any (A : Option Addr) (bs : List Int) (c : Nat) (w : World) (hA : Cells w A (u8s bs)) (hrng : ∀ x ∈ bs, 0 ≤ x ∧ x < 256) (hlen : bs.length ≤ 1000000000000) :
  Calls Tryz.prog 68 #[.slice A bs.length c] w fun e w' => ∃ gv nv sv ov iv sig g, e = .returned (.tuple #[gv, .agg #[.int .i64 g.roots, nv, sv, .int .i64 g.edges, ov, iv]]) ∧ (∀ W, Kept (fun q => q < w.heap.size) w' W → DG W gv nv sv ov iv sig g) ∧ Below w.heap.size w w' := by
 obtain ⟨W0, hW0, hb0, hs0, bx0, -⟩ := laid2 w (.cells #[.int .i64 0, .slice none 0 0, .slice none 0 0, .int .i64 0, .slice none 0 0, .slice none 0 0] 31) (.cells #[.slice A bs.length c, .int .i64 0, .int .u64 0] 72)
 have hC : Cur W0 (w.heap.size + 1) A bs c 0 := by
  have h := Cur.start (c := c) (hA.below (((Below.refl w.heap.size w).alloc (Nat.le_refl _) (.cells #[.int .i64 0, .slice none 0 0, .slice none 0 0, .int .i64 0, .slice none 0 0, .slice none 0 0] 31)))) hrng hlen
  rw [World.size_alloc] at h
  rw [hW0]; exact h
 have HS1 := Lib.hid (sig_any (w.heap.size + 1) A bs c 0 W0 hC (by omega))
 have HB0 := Lib.hid hb0
 have HX0 := Lib.hid bx0
 have HW0 := Lib.hid hW0
 have HS0 := Lib.hid hs0
 clear hC hb0 bx0 hW0 hA hs0
 go_enter Tryz.func68, Tryz.ntmps68
 go_wp2_with fail
 rw [← HW0.out]
 (with_reducible refine HS1.out.mono ?_)
 rintro e w1 ⟨gv, sig, rfl, hD1, hC1, hK1⟩
 have HK1 := Lib.hid hK1
 have HD1 := Lib.hid hD1
 have H2 := Lib.hid (pick_any (w.heap.size + 1) A bs c (0 + 20) 4 w1 hC1 (by omega) (by omega))
 clear hK1 hD1 hC1 HS1
 go_wp2_with fail
 (with_reducible refine H2.out.mono ?_)
 rintro e w2 ⟨x, rfl, hx0, hx1, hC2, hK2⟩
 have HC2 := Lib.hid hC2
 have HK2 := Lib.hid hK2
 clear hC2 hK2 H2 hx0 hx1
 by_cases h0 : x = 0
 ·subst h0
  have H3 := Lib.hid (pick_any (w.heap.size + 1) A bs c _ 5 w2 HC2.out (by omega) (by omega))
  go_wp2_with fail
  (with_reducible refine H3.out.mono ?_)
  rintro e w3 ⟨n, rfl, hn0, hn1, hc, hk⟩
  obtain ⟨n, rfl⟩ := Int.eq_ofNat_of_zero_le hn0
  have hn3 : n ≤ 4 := by have := hn1 (by omega); omega
  have HK3 := Lib.hid (HK2.out.trans hk)
  have H4 := Lib.hid (order_any (w.heap.size + 1) A bs c _ n w3 hc (by omega) (by omega))
  clear H3 hn0 hn1 hc hk
  go_wp2_with fail
  (with_reducible refine H4.out.mono ?_)
  rintro e w4 ⟨v, l, rfl, hd, hc, hk⟩
  obtain ⟨AV, dV, rfl, hcv⟩ := hd.ex
  have HKP := Lib.hid (HK3.out.trans hk)
  have HDL := Lib.hid (And.intro hd.len hd.bd)
  have H5 := Lib.hid (l3Permutation_any l AV dV w4 (by have := hd.len; omega) (fun x hx => by have := hd.bd x hx; omega) (hcv w4 (Kept.refl _ _)))
  clear H4 hd hc hk hcv
  go_wp2_with fail
  (with_reducible refine H5.out.mono ?_)
  rintro e w5 ⟨X, rfl, hXg, hr⟩
  clear H5
  obtain ⟨g, hg⟩ : ∃ g, g = X.g := ⟨_, rfl⟩
  obtain ⟨xr, xe, xnv, xsv, xov, xiv, xns, xls, xss, xos, xis⟩ := X
  obtain ⟨AN', cN', AS', cS', AO', cO', AI', cI', e1, e2, e3, e4⟩ := hr.ob.form
  obtain rfl : xr = g.roots := (congrArg Gr.roots hg).symm
  obtain rfl : xns = g.nodes := (congrArg Gr.nodes hg).symm
  obtain rfl : xss = g.sites := (congrArg Gr.sites hg).symm
  obtain rfl : xe = g.edges := (congrArg Gr.edges hg).symm
  obtain rfl : xos = g.outer := (congrArg Gr.outer hg).symm
  obtain rfl : xis = g.inner := (congrArg Gr.inner hg).symm
  dsimp only at e1 e2 e3 e4
  subst e1 e2 e3 e4
  simp only [BX.cells]
  have hsm : SmallG g := by rw [hg, hXg]; exact permG_small (by have := HDL.out.1; omega) (fun x hx => by have := HDL.out.2 x hx; omega)
  have HSM := Lib.hid hsm
  have hrk := hr.ob.rk (by rw [← hg]; exact hsm)
  have HR := Lib.hid (show RK w4.heap.size _ _ _ _ _ g from hrk)
  have HKL := Lib.hid (HKP.out.trans (Kept.of_below hr.bel _))
  have hwp := HKP.out.size
  clear hsm hrk hr hXg hg
  have hs1 := HK1.out.size
  have hs0 := HS0.out
  have hrb := (HKL.out.block w.heap.size (by omega) (by omega)).trans ((HK1.out.block w.heap.size (by omega) (by omega)).trans HX0.out)
  obtain ⟨z0, z1, z2, z3, z4, z5, f0, f1, f2, f3, f4, f5⟩ := row6f hrb
  have HRB := Lib.hid hrb
  clear hrb
  go_wp2_with fail
  have e10 := heap_setCell_same w5 w.heap.size 0 _ _ (.int .i64 g.roots) HRB.out
  have e11 := heap_setCell_same _ w.heap.size 1 _ _ (.slice AN' g.nodes.length cN') e10
  have e12 := heap_setCell_same _ w.heap.size 2 _ _ (.slice AS' g.sites.length cS') e11
  have e13 := heap_setCell_same _ w.heap.size 3 _ _ (.int .i64 g.edges) e12
  have e14 := heap_setCell_same _ w.heap.size 4 _ _ (.slice AO' g.outer.length cO') e13
  have e15 := heap_setCell_same _ w.heap.size 5 _ _ (.slice AI' g.inner.length cI') e14
  have hKF := (((((((Kept.refl (fun q => q = w.heap.size) w5).setCell (p := ⟨w.heap.size, 0, none⟩) rfl (.int .i64 g.roots)).setCell (p := ⟨w.heap.size, 1, none⟩) rfl (.slice AN' g.nodes.length cN')).setCell (p := ⟨w.heap.size, 2, none⟩) rfl (.slice AS' g.sites.length cS')).setCell (p := ⟨w.heap.size, 3, none⟩) rfl (.int .i64 g.edges)).setCell (p := ⟨w.heap.size, 4, none⟩) rfl (.slice AO' g.outer.length cO')).setCell (p := ⟨w.heap.size, 5, none⟩) rfl (.slice AI' g.inner.length cI'))
  (try simp only [Exit.inBlock, Exit.then])
  refine bodyPost_ret (results_tmp_row rfl _ _ w.heap.size _ #[.int .i64 g.roots, .slice AN' g.nodes.length cN', .slice AS' g.sites.length cS', .int .i64 g.edges, .slice AO' g.outer.length cO', .slice AI' g.inner.length cI'] _ _ rfl e15 Tryz.underlying31 rfl (by kernel_rfl)) rfl ?_
  exact draw_end HD1.out HR.out HSM.out HKL.out hKF HB0.out HK1.out HS0.out hwp
 have e0 : (x == 0) = false := by simpa using h0
 by_cases h1 : x = 1
 ·subst h1
  have H3 := Lib.hid (pick_any (w.heap.size + 1) A bs c _ 3 w2 HC2.out (by omega) (by omega))
  go_wp2_with fail
  (with_reducible refine H3.out.mono ?_)
  rintro e w3 ⟨n, rfl, hn0, hn1, hc, hk⟩
  obtain ⟨n, rfl⟩ := Int.eq_ofNat_of_zero_le hn0
  have hn3 : n ≤ 2 := by have := hn1 (by omega); omega
  obtain ⟨kn, hkn⟩ : ∃ kn : Nat, kn = 1 + n := ⟨_, rfl⟩
  have hkc : (1 : Int) + (n : Int) = (kn : Int) := by omega
  have hk1 : 1 ≤ kn := by omega
  have hk3 : kn ≤ 3 := by omega
  have HC3 := Lib.hid hc
  have HK3 := Lib.hid (HK2.out.trans hk)
  have HKN := Lib.hid hkc
  have hp3 := hc.lt
  have h3s : w1.heap.size ≤ w3.heap.size := HK3.out.size
  clear H3 hn0 hn1 hc hk hkn hkc
  go_wp2_with fail
  rw [HKN.out]
  have b0 : (0 : Int) ≤ (kn : Int) := by omega
  have b1 : (kn : Int) ≤ 3 := by omega
  refine wp_region_ph (by kernel_rfl) [some 27, some 28, some 29, some 30, some 31, some 32, some 33, some 34, some 35, some 36, some 37, some 2, none] (fun q v => match q with | 0 => v = gv | 1 => ∃ gz, v = .slice (some ⟨gz, 0, none⟩) 3 3 | 2 => v = .int .i64 (kn : Int) | 3 => ∃ gz, v = .slice (some ⟨gz, 0, none⟩) kn 3 | 4 => v = .pointer (some ⟨w.heap.size + 1, 0, none⟩) | 5 => ∃ gz, v = .slice (some ⟨gz, 0, none⟩) 2 2 | 6 => ∃ s, v = .string s | 7 => ∃ gz, v = .slice (some ⟨gz, 0, none⟩) 3 3 | 8 => v = .int .i64 (kn : Int) | 9 => ∃ gz, v = .slice (some ⟨gz, 0, none⟩) kn 3 | 10 => ∃ vv : Value, v = vv | 11 => v = gv | 12 => True | _ => True) (fun q v W => match q with | 0 => True | 1 => ∀ g, v = .slice (some ⟨g, 0, none⟩) 3 3 → w3.heap.size ≤ g ∧ W.heap[g]? = some (.cells #[.string ⟨#[97]⟩, .string ⟨#[98]⟩, .string ⟨#[121]⟩] 9) | 2 => True | 3 => ∀ g, v = .slice (some ⟨g, 0, none⟩) kn 3 → w3.heap.size ≤ g ∧ W.heap[g]? = some (.cells #[.string ⟨#[97]⟩, .string ⟨#[98]⟩, .string ⟨#[121]⟩] 9) | 4 => True | 5 => ∀ g, v = .slice (some ⟨g, 0, none⟩) 2 2 → w3.heap.size ≤ g ∧ W.heap[g]? = some (.cells #[.string ⟨#[97]⟩, .string ⟨#[120]⟩] 9) | 6 => ∀ s, v = .string s → s ∈ ([⟨#[97]⟩, ⟨#[120]⟩] : List ByteArray) | 7 => ∀ g, v = .slice (some ⟨g, 0, none⟩) 3 3 → w3.heap.size ≤ g ∧ ∃ s, s ∈ ([⟨#[97]⟩, ⟨#[120]⟩] : List ByteArray) ∧ W.heap[g]? = some (.cells #[.string ⟨#[120]⟩, .string s, .string ⟨#[99]⟩] 9) | 8 => True | 9 => ∀ g, v = .slice (some ⟨g, 0, none⟩) kn 3 → w3.heap.size ≤ g ∧ ∃ s, s ∈ ([⟨#[97]⟩, ⟨#[120]⟩] : List ByteArray) ∧ W.heap[g]? = some (.cells #[.string ⟨#[120]⟩, .string s, .string ⟨#[99]⟩] 9) | 10 => ∃ gg AN cN AS cS AO cO AI cI, v = .agg #[.int .i64 gg.roots, .slice AN gg.nodes.length cN, .slice AS gg.sites.length cS, .int .i64 gg.edges, .slice AO gg.outer.length cO, .slice AI gg.inner.length cI] ∧ RK w3.heap.size W (.slice AN gg.nodes.length cN) (.slice AS gg.sites.length cS) (.slice AO gg.outer.length cO) (.slice AI gg.inner.length cI) gg ∧ SmallG gg | 11 => True | 12 => True | _ => True) (fun W W' => Kept (fun q => q = w.heap.size + 1) W W') 12 12 (fun kk W => ∃ K2 : Nat, K2 ≤ (0 + 20 + 2 + 2) + 2 * kk ∧ Cur W (w.heap.size + 1) A bs c K2 ∧ Kept (fun q => q = w.heap.size + 1) w3 W) (fun v W => True) (fun v W => F9P w.heap.size (w.heap.size + 1) w3.heap.size w3 W) (by kernel_rfl) (by kernel_rfl) (by kernel_rfl) (by decide) (by decide) ?m1o ?r1s ?h10 ?s1t ?f1i
  case m1o => exact fun k k' W h hd => by obtain ⟨K2, h1, h2⟩ := hd; exact ⟨K2, Nat.le_trans h1 (Nat.add_le_add_left (Nat.mul_le_mul_left 2 h) _), h2⟩
  case r1s =>
   intro q v W W' ht h
   match q, h with
   | 0, h | 2, h | 4, h | 6, h | 8, h | 11, h | 12, h => exact h
   | 1, h | 3, h | 5, h => exact (fun g e => by obtain ⟨h1, h2⟩ := h g e; exact ⟨h1, (ht.block g (Array.getElem?_eq_some_iff.1 h2).1 (by omega)).trans h2⟩)
   | 7, h | 9, h => exact (fun g e => by obtain ⟨h1, s, hs, h2⟩ := h g e; exact ⟨h1, s, hs, (ht.block g (Array.getElem?_eq_some_iff.1 h2).1 (by omega)).trans h2⟩)
   | 10, h => exact (by obtain ⟨gg, AN, cN, AS, cS, AO, cO, AI, cI, e, h1, h2⟩ := h; exact ⟨gg, AN, cN, AS, cS, AO, cO, AI, cI, e, fun W2 hk2 => h1 W2 ((ht.mono fun q hq => by omega).trans hk2), h2⟩)
   | q + 13, _ => trivial
  case h10 => exact ⟨_, Nat.le_refl _, HC3.out.below ((Below.refl _ _).drew), Kept.of_below ((Below.refl _ _).drew) _⟩
  case s1t =>
   as_aux_lemma =>
    intro L act W q oo hJ hL hA hS ho hd K3 hK3
    match q, ho with
    | 0, ho =>
     cases ho
     have a5 : act.tmps[5]? = some _ := hJ.out 5 (by decide)
     clear hJ hd
     go_simp
     exact hK3 _ _ (.same (by decide) (by decide) rfl rfl (fun _ => trivial))
    | 1, ho =>
     cases ho
     have hn : L 12 = false := hA (by kernel_rfl)
     have hD := hJ.d hn
     obtain ⟨K2, hK2, hcu, hkw⟩ := hD
     have hws := hkw.size
     have HLD := Lib.hid (show ∃ K3 : Nat, K3 ≤ (0 + 20 + 2 + 2) + 2 * cntL 13 (upd L 1) ∧ Cur (W.alloc (.cells #[.string ⟨#[97]⟩, .string ⟨#[98]⟩, .string ⟨#[121]⟩] 9)) (w.heap.size + 1) A bs c K3 ∧ Kept (fun q => q = w.heap.size + 1) w3 (W.alloc (.cells #[.string ⟨#[97]⟩, .string ⟨#[98]⟩, .string ⟨#[121]⟩] 9)) from ⟨K2, Nat.le_trans hK2 (Nat.add_le_add_left (Nat.mul_le_mul_left 2 (cnt_mono hL _)) _), hcu.below ((Below.refl _ _).alloc (Nat.le_refl _) _), hkw.trans (Kept.of_below ((Below.refl _ _).alloc (Nat.le_refl _) _) _)⟩)
     have hD := True.intro
     clear hK2 hcu hkw
     have HD := Lib.hid hD
     clear hJ hd hD
     go_simp
     exact hK3 _ _ (.lay (by decide) (by decide) ⟨_, rfl⟩ hn (Kept.of_below ((Below.refl _ _).alloc (Nat.le_refl _) _) _) (fun g e => by injection e with e1; injection e1 with e2; injection e2 with e3; subst e3; exact ⟨hws, heap_alloc_new _ _⟩) (HLD.out))
    | 2, ho | 8, ho =>
     cases ho
     have a6 : act.tmps[6]? = some _ := hJ.out 6 (by decide)
     clear hJ hd
     go_simp
     exact hK3 _ _ (.same (by decide) (by decide) rfl rfl (fun _ => trivial))
    | 3, ho =>
     cases ho
     simp [Region.binds] at hd
     have l1 : L 1 = true := by simp [hd]
     obtain ⟨u1, v1, ⟨gz, rfl⟩, hr1⟩ := hJ.has 1 28 l1 rfl
     have v2 := hJ.val (by simp [hd] : L 2 = true) rfl fun _ h => h
     clear hJ hd
     go_simp
     exact hK3 _ _ (.same (by decide) (by decide) ⟨_, rfl⟩ rfl ((fun hn g e => by cases e; exact hr1 hn _ rfl)))
    | 4, ho =>
     cases ho
     have a4 : act.tmps[4]? = some _ := hJ.out 4 (by decide)
     clear hJ hd
     go_simp
     exact hK3 _ _ (.same (by decide) (by decide) rfl rfl (fun _ => trivial))
    | 5, ho =>
     cases ho
     have hn : L 12 = false := hA (by kernel_rfl)
     have hD := hJ.d hn
     obtain ⟨K2, hK2, hcu, hkw⟩ := hD
     have hws := hkw.size
     have HLD := Lib.hid (show ∃ K3 : Nat, K3 ≤ (0 + 20 + 2 + 2) + 2 * cntL 13 (upd L 5) ∧ Cur (W.alloc (.cells #[.string ⟨#[97]⟩, .string ⟨#[120]⟩] 9)) (w.heap.size + 1) A bs c K3 ∧ Kept (fun q => q = w.heap.size + 1) w3 (W.alloc (.cells #[.string ⟨#[97]⟩, .string ⟨#[120]⟩] 9)) from ⟨K2, Nat.le_trans hK2 (Nat.add_le_add_left (Nat.mul_le_mul_left 2 (cnt_mono hL _)) _), hcu.below ((Below.refl _ _).alloc (Nat.le_refl _) _), hkw.trans (Kept.of_below ((Below.refl _ _).alloc (Nat.le_refl _) _) _)⟩)
     have hD := True.intro
     clear hK2 hcu hkw
     have HD := Lib.hid hD
     clear hJ hd hD
     go_simp
     exact hK3 _ _ (.lay (by decide) (by decide) ⟨_, rfl⟩ hn (Kept.of_below ((Below.refl _ _).alloc (Nat.le_refl _) _) _) (fun g e => by injection e with e1; injection e1 with e2; injection e2 with e3; subst e3; exact ⟨hws, heap_alloc_new _ _⟩) (HLD.out))
    | 6, ho =>
     cases ho
     simp [Region.binds] at hd
     have v4 := hJ.val (by simp [hd] : L 4 = true) rfl fun _ h => h
     have l5 : L 5 = true := by simp [hd]
     obtain ⟨u5, v5, ⟨gz, rfl⟩, hr5⟩ := hJ.has 5 32 l5 rfl
     have hn : L 12 = false := hA (by kernel_rfl)
     have hD := hJ.d hn
     obtain ⟨hg1, hg2⟩ := hr5 hn _ rfl
     obtain ⟨K2, hK2, hcu, hkw⟩ := hD
     have hK2b : K2 ≤ (0 + 20 + 2 + 2) + 2 * cntL 13 L := hK2
     have hc13 := cnt_le L 13
     have HCU := Lib.hid (show K2 + 2 ≤ (0 + 20 + 2 + 2) + 2 * cntL 13 (upd L 6) from by rw [cnt_upd hL (by decide)]; omega)
     have hK2c : K2 ≤ 100 := by omega
     have HCR := Lib.hid hcu
     have HKW := Lib.hid hkw
     have HG2 := Lib.hid hg2
     have hD := True.intro
     clear hK2 hK2b hc13 hcu hkw hg2
     have HD := Lib.hid hD
     clear hJ hd hD
     go_simp
     go_at_call 113
     refine ((show Calls Tryz.prog 113 #[.pointer (some ⟨w.heap.size + 1, 0, none⟩), .slice (some ⟨gz, 0, none⟩) 2 2] W _ from ofG_any (w.heap.size + 1) A bs c K2 gz 2 [⟨#[97]⟩, ⟨#[120]⟩] W HCR.out (by omega) (by decide) (by decide) (cellsG HG2.out) (by omega))).mono ?_
     rintro e W' ⟨s, rfl, hs, hC, hb⟩
     go_simp
     exact hK3 _ _ (.lay (by decide) (by decide) ⟨_, rfl⟩ hn (hb) (fun s' e => by cases e; exact hs) (⟨K2 + 2, HCU.out, hC, HKW.out.trans hb⟩))
    | 7, ho =>
     cases ho
     simp [Region.binds] at hd
     have l6 : L 6 = true := by simp [hd]
     obtain ⟨u6, v6, ⟨s, rfl⟩, hr6⟩ := hJ.has 6 33 l6 rfl
     have hn : L 12 = false := hA (by kernel_rfl)
     have hD := hJ.d hn
     obtain ⟨K2, hK2, hcu, hkw⟩ := hD
     have hws := hkw.size
     have HLD := Lib.hid (show ∃ K3 : Nat, K3 ≤ (0 + 20 + 2 + 2) + 2 * cntL 13 (upd L 7) ∧ Cur (W.alloc (.cells #[.string ⟨#[120]⟩, .string s, .string ⟨#[99]⟩] 9)) (w.heap.size + 1) A bs c K3 ∧ Kept (fun q => q = w.heap.size + 1) w3 (W.alloc (.cells #[.string ⟨#[120]⟩, .string s, .string ⟨#[99]⟩] 9)) from ⟨K2, Nat.le_trans hK2 (Nat.add_le_add_left (Nat.mul_le_mul_left 2 (cnt_mono hL _)) _), hcu.below ((Below.refl _ _).alloc (Nat.le_refl _) _), hkw.trans (Kept.of_below ((Below.refl _ _).alloc (Nat.le_refl _) _) _)⟩)
     have hD := True.intro
     clear hK2 hcu hkw
     have HD := Lib.hid hD
     clear hJ hd hD
     go_simp
     exact hK3 _ _ (.lay (by decide) (by decide) ⟨_, rfl⟩ hn (Kept.of_below ((Below.refl _ _).alloc (Nat.le_refl _) _) _) (fun g e => by injection e with e1; injection e1 with e2; injection e2 with e3; subst e3; exact ⟨hws, _, hr6 hn _ rfl, heap_alloc_new _ _⟩) (HLD.out))
    | 9, ho =>
     cases ho
     simp [Region.binds] at hd
     have l7 : L 7 = true := by simp [hd]
     obtain ⟨u7, v7, ⟨gz, rfl⟩, hr7⟩ := hJ.has 7 34 l7 rfl
     have v8 := hJ.val (by simp [hd] : L 8 = true) rfl fun _ h => h
     clear hJ hd
     go_simp
     exact hK3 _ _ (.same (by decide) (by decide) ⟨_, rfl⟩ rfl ((fun hn g e => by cases e; exact hr7 hn _ rfl)))
    | 10, ho =>
     cases ho
     simp [Region.binds] at hd
     have l3 : L 3 = true := by simp [hd]
     obtain ⟨u3, v3, ⟨gz, rfl⟩, hr3⟩ := hJ.has 3 30 l3 rfl
     have l9 : L 9 = true := by simp [hd]
     obtain ⟨u9, v9, ⟨gz, rfl⟩, hr9⟩ := hJ.has 9 36 l9 rfl
     have hn : L 12 = false := hA (by kernel_rfl)
     have hD := hJ.d hn
     obtain ⟨hg1, hg2⟩ := hr3 hn _ rfl
     obtain ⟨hg3, s, hs, hg4⟩ := hr9 hn _ rfl
     obtain ⟨K2, hK2, hcu, hkw⟩ := hD
     have HCR := Lib.hid hcu
     have HKW := Lib.hid hkw
     have hsz3 := hkw.size
     have HCM := Lib.hid (Nat.le_trans hK2 (Nat.add_le_add_left (Nat.mul_le_mul_left 2 (cnt_mono (i := 10) hL 13)) _))
     have HSS := Lib.hid (size_two hs)
     have HCL := Lib.hid (sub_call kn _ _ s W hk1 hk3 hg2 hg4 HSS.out)
     have hD := True.intro
     clear hg2 hg4 hs hcu hkw hK2
     have HD := Lib.hid hD
     clear hJ hd hD
     go_simp
     go_at_call 123
     refine (HCL.out).mono ?_
     rintro e W' ⟨gg, N1, n1, N2, n2, N3, n3, N4, n4, rfl, hrk, hsm, hb⟩
     go_simp
     exact hK3 _ _ (.lay (by decide) (by decide) ⟨_, rfl⟩ hn ((Kept.of_below hb _)) ⟨_, _, _, _, _, _, _, _, _, rfl, fun W2 hk2 => hrk W2 (hk2.mono fun q hq => by omega), hsm⟩ (⟨_, HCM.out, HCR.out.below hb, HKW.out.trans (Kept.of_below hb _)⟩))
    | 11, ho =>
     cases ho
     simp [Region.binds] at hd
     have v0 := hJ.val (by simp [hd] : L 0 = true) rfl fun _ h => h
     clear hJ hd
     go_simp
     exact hK3 _ _ (.same (by decide) (by decide) rfl rfl (fun _ => trivial))
    | 12, ho =>
     cases ho
     simp [Region.binds] at hd
     have a3 : act.tmps[3]? = some _ := hJ.out 3 (by decide)
     have l10 : L 10 = true := by simp [hd]
     obtain ⟨u10, v10, ⟨vv, rfl⟩, hr10⟩ := hJ.has 10 37 l10 rfl
     have hn : L 12 = false := hA (by kernel_rfl)
     have hD := hJ.d hn
     clear hJ hd
     obtain ⟨gg, AN, cN, AS, cS, AO, cO, AI, cI, rfl, hrk, hsm⟩ := hr10 hn
     obtain ⟨K2, hK2, hcu, hkw⟩ := hD
     have hs0 := HS0.out
     have hrb := (hkw.block w.heap.size (by omega) (by omega)).trans ((HK3.out.block w.heap.size (by have := HK1.out.size; omega) (by omega)).trans ((HK1.out.block w.heap.size (by omega) (by omega)).trans HX0.out))
     obtain ⟨z0, z1, z2, z3, z4, z5, f0, f1, f2, f3, f4, f5⟩ := row6f hrb
     have HD9 := Lib.hid (show ∃ K2 : Nat, K2 ≤ (0 + 20 + 2 + 2) + 2 * cntL 13 L ∧ Cur W (w.heap.size + 1) A bs c K2 ∧ Kept (fun q => q = w.heap.size + 1) w3 W from ⟨K2, hK2, hcu, hkw⟩)
     have HS9 := Lib.hid (store9f hrb hkw (by omega) hrk hsm)
     have hD := True.intro
     clear hrb hcu hK2 hkw hrk hsm
     have HFF := Lib.hid (HS9.out)
     clear hD
     go_simp
     exact hK3 undef _ (.one rfl (by decide) trivial HFF.out)
    | q + 13, ho => simp at ho
  intro V W hF hV
  have v0 : V 0 = _ := hV 0 27 rfl
  obtain ⟨gz1, v1⟩ : ∃ gz, V 1 = .slice (some ⟨gz, 0, none⟩) 3 3 := hV 1 28 rfl
  have v2 : V 2 = _ := hV 2 29 rfl
  obtain ⟨gz3, v3⟩ : ∃ gz, V 3 = .slice (some ⟨gz, 0, none⟩) kn 3 := hV 3 30 rfl
  have v4 : V 4 = _ := hV 4 31 rfl
  obtain ⟨gz5, v5⟩ : ∃ gz, V 5 = .slice (some ⟨gz, 0, none⟩) 2 2 := hV 5 32 rfl
  obtain ⟨s6, v6⟩ : ∃ s, V 6 = .string s := hV 6 33 rfl
  obtain ⟨gz7, v7⟩ : ∃ gz, V 7 = .slice (some ⟨gz, 0, none⟩) 3 3 := hV 7 34 rfl
  have v8 : V 8 = _ := hV 8 35 rfl
  obtain ⟨gz9, v9⟩ : ∃ gz, V 9 = .slice (some ⟨gz, 0, none⟩) kn 3 := hV 9 36 rfl
  obtain ⟨vv10, v10⟩ : ∃ vv : Value, V 10 = vv := hV 10 37 rfl
  have v11 : V 11 = _ := hV 11 2 rfl
  clear hV
  simp only [layV, List.setIfInBounds_toArray, List.set_cons_zero, List.set_cons_succ, v0, v1, v2, v3, v4, v5, v6, v7, v8, v9, v10, v11]
  clear v0 v1 v2 v3 v4 v5 v6 v7 v8 v9 v10 v11
  obtain ⟨v, _, gg, AN, cN, AS, cS, AO, cO, AI, cI, hcl, hrk, hsm, hkw⟩ := hF
  have HCL := Lib.hid hcl
  have HR := Lib.hid hrk
  have HSM := Lib.hid hsm
  have HKL := Lib.hid ((HK3.out.mono fun q hq => .inl hq).trans hkw)
  clear hcl hrk hsm hkw
  go_wp2_with fail
  (try simp only [Exit.inBlock, Exit.then])
  refine bodyPost_ret (results_tmp_row rfl _ _ w.heap.size _ #[.int .i64 gg.roots, .slice AN gg.nodes.length cN, .slice AS gg.sites.length cS, .int .i64 gg.edges, .slice AO gg.outer.length cO, .slice AI gg.inner.length cI] _ _ rfl HCL.out Tryz.underlying31 rfl (by kernel_rfl)) rfl ?_
  exact draw_end2 HD1.out HR.out HSM.out HKL.out HB0.out HK1.out HS0.out h3s
 have e1 : (x == 1) = false := by simpa using h1
 have H3 := Lib.hid (show Calls Tryz.prog 157 #[.pointer (some ⟨w.heap.size + 1, 0, none⟩), gv] w2 _ from plain_any (w.heap.size + 1) A bs c (0 + 20 + 2) W0.heap.size gv sig w2 HC2.out (by omega) (by have := HS0.out; omega) (ownsK HD1.out.own HK2.out (fun q hq => by have := (HD1.out.own.lt q hq).1; have := HS0.out; omega)) HD1.out.small HD1.out.ports)
 go_wp2_with fail
 (with_reducible refine H3.out.mono ?_)
 rintro e w3 ⟨nv, sv, ov, iv, g, rfl, hr2, hsm2, hC3, hK3⟩
 obtain ⟨AN', cN', AS', cS', AO', cO', AI', cI', rfl, rfl, rfl, rfl⟩ := hr2.now.form
 have HR := Lib.hid hr2
 have HSM := Lib.hid hsm2
 have HKL := Lib.hid (HK2.out.trans hK3)
 have hwp := HK2.out.size
 clear hr2 hsm2 hC3 hK3 H3
 have hs1 := HK1.out.size
 have hs0 := HS0.out
 have hrb := (HKL.out.block w.heap.size (by omega) (by omega)).trans ((HK1.out.block w.heap.size (by omega) (by omega)).trans HX0.out)
 obtain ⟨z0, z1, z2, z3, z4, z5, f0, f1, f2, f3, f4, f5⟩ := row6f hrb
 have HRB := Lib.hid hrb
 clear hrb
 go_wp2_with fail
 have e10 := heap_setCell_same w3 w.heap.size 0 _ _ (.int .i64 g.roots) HRB.out
 have e11 := heap_setCell_same _ w.heap.size 1 _ _ (.slice AN' g.nodes.length cN') e10
 have e12 := heap_setCell_same _ w.heap.size 2 _ _ (.slice AS' g.sites.length cS') e11
 have e13 := heap_setCell_same _ w.heap.size 3 _ _ (.int .i64 g.edges) e12
 have e14 := heap_setCell_same _ w.heap.size 4 _ _ (.slice AO' g.outer.length cO') e13
 have e15 := heap_setCell_same _ w.heap.size 5 _ _ (.slice AI' g.inner.length cI') e14
 have hKF := (((((((Kept.refl (fun q => q = w.heap.size) w3).setCell (p := ⟨w.heap.size, 0, none⟩) rfl (.int .i64 g.roots)).setCell (p := ⟨w.heap.size, 1, none⟩) rfl (.slice AN' g.nodes.length cN')).setCell (p := ⟨w.heap.size, 2, none⟩) rfl (.slice AS' g.sites.length cS')).setCell (p := ⟨w.heap.size, 3, none⟩) rfl (.int .i64 g.edges)).setCell (p := ⟨w.heap.size, 4, none⟩) rfl (.slice AO' g.outer.length cO')).setCell (p := ⟨w.heap.size, 5, none⟩) rfl (.slice AI' g.inner.length cI'))
 (try simp only [Exit.inBlock, Exit.then])
 refine bodyPost_ret (results_tmp_row rfl _ _ w.heap.size _ #[.int .i64 g.roots, .slice AN' g.nodes.length cN', .slice AS' g.sites.length cS', .int .i64 g.edges, .slice AO' g.outer.length cO', .slice AI' g.inner.length cI'] _ _ rfl e15 Tryz.underlying31 rfl (by kernel_rfl)) rfl ?_
 exact draw_end HD1.out HR.out HSM.out HKL.out hKF HB0.out HK1.out HS0.out hwp

end Go.Proofs.YtijkdpdmclkmlaaGreatDoor
