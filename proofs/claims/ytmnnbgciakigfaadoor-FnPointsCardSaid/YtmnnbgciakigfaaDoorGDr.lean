/- The draws of a signature with a bigraph. -/
import Derived.Test.YtmnnbgciakigfaaDoorProg
import Derived.Test.YtmnnbgciakigfaaDoorGBg
set_option linter.unusedVariables false
set_option linter.unusedSimpArgs false
namespace Go.Proofs.YtmnnbgciakigfaaDoor
open Go.RowKit

/-- Results: a slot, and a struct in a cell. -/
theorem results_tmp_row {P : Program} {fn : Func} {p q : Tmp} {ty : TypeId} (h : fn.results = #[.tmp q, .cell p ty]) (tmps : Array Value) (w : World) (g : Nat) (t : TypeId) (cs : Array Value) (fr : Nat × Nat) (d : TypeDesc)
    (hp : tmps.getD p undef = .pointer (some ⟨g, 0, none⟩)) (hg : w.heap[g]? = some (.cells cs t fr))
    (hu : P.underlying ty = some d) (hd : (match d with | .struct _ | .array _ _ => true | _ => false) = true) (hi : (P.info? ty).map (·.size) = some cs.size) :
    (results fn tmps).run P w = .ok (.tuple #[tmps.getD q undef, .agg cs]) w := by
  have hp' : tmps[p]?.getD undef = .pointer (some ⟨g, 0, none⟩) := by simpa using hp
  simp [results, h, hp', asAddr, run_loadVar_row w g t ty cs fr d hg hu hd hi]

/-- A signature and a bigraph that have been drawn. -/
structure DG (w' : World) (gv nv sv ov iv : Value) (sig : List Ct) (g : Gr) : Prop where
  sg : RSl RCt 3 w' gv sig
  sz : SmallS sig
  cap : CapOk gv
  rg : RGr w' nv sv ov iv g
  sm : SmallG g
theorem DG.below {w w' : World} {gv nv sv ov iv : Value} {sig : List Ct} {g : Gr} (h : DG w gv nv sv ov iv sig g) (hb : Below w.heap.size w w') : DG w' gv nv sv ov iv sig g :=
  { h with sg := h.sg.below RCt_keep hb, rg := h.rg.below hb }

set_option maxRecDepth 100000 in
set_option maxHeartbeats 4000000 in
theorem drawIsBigraph_any (A : Option Addr) (bs : List Int) (c : Nat) (w : World) (hA : Cells w A (u8s bs)) (hrng : ∀ x ∈ bs, 0 ≤ x ∧ x < 256) (hlen : bs.length ≤ 1000000000000) :
    Calls Tryd.prog 17 #[.slice A bs.length c] w fun e w' => ∃ gv nv sv ov iv sig g, e = .returned (.tuple #[gv, .agg #[.int .i64 g.roots, nv, sv, .int .i64 g.edges, ov, iv]]) ∧ (∀ W, Kept (fun q => q < w.heap.size) w' W → DG W gv nv sv ov iv sig g) ∧ Below w.heap.size w w' := by
  obtain ⟨W0, hW0⟩ : ∃ W0, W0 = (w.alloc (.cells #[.int .i64 0, .slice none 0 0, .slice none 0 0, .int .i64 0, .slice none 0 0, .slice none 0 0] 30)).alloc (.cells #[.slice A bs.length c, .int .i64 0, .int .u64 0] 60) := ⟨_, rfl⟩
  have hb0 : Below w.heap.size w W0 := by rw [hW0]; exact ((Below.refl _ _).alloc (Nat.le_refl _) _).alloc (by simp) _
  have hs0 : W0.heap.size = w.heap.size + 1 + 1 := by rw [hW0]; simp
  have bx0 : W0.heap[w.heap.size]? = some (.cells #[.int .i64 0, .slice none 0 0, .slice none 0 0, .int .i64 0, .slice none 0 0, .slice none 0 0] 30) := by
    rw [hW0]
    exact (heap_alloc_old _ _ (by simp)).trans (heap_alloc_new _ _)
  have hC : Cur W0 (w.heap.size + 1) A bs c 0 := by
    have h := Cur.start (c := c) (hA.below (((Below.refl w.heap.size w).alloc (Nat.le_refl _) (.cells #[.int .i64 0, .slice none 0 0, .slice none 0 0, .int .i64 0, .slice none 0 0, .slice none 0 0] 30)))) hrng hlen
    rw [World.size_alloc] at h
    rw [hW0]; exact h
  have HS1 := Lib.hid (sig_any (w.heap.size + 1) A bs c 0 W0 hC (by omega))
  have HB0 := Lib.hid hb0
  have HX0 := Lib.hid bx0
  have HW0 := Lib.hid hW0
  clear hC hb0 bx0 hW0 hA
  go_enter Tryd.func17, Tryd.ntmps17
  go_wp2_with fail
  rw [← HW0.out]
  (with_reducible refine HS1.out.mono ?_)
  rintro e w1 ⟨gv, sig, rfl, hD1, hC1, hK1⟩
  have HK1 := Lib.hid hK1
  have HD1 := Lib.hid hD1
  have HB2 := Lib.hid (show Calls Tryd.prog 34 #[.pointer (some ⟨w.heap.size + 1, 0, none⟩), gv, .int .i64 8] w1 _ from bigraph_any (w.heap.size + 1) A bs c (0 + 20) 8 W0.heap.size gv sig w1 hC1 (by omega) (by omega) (by omega) hD1.own hD1.small hD1.ports)
  clear hK1 hD1 hC1
  go_wp2_with fail
  (with_reducible refine HB2.out.mono ?_)
  rintro e w2 ⟨nv, sv, ov, iv, g, rfl, hr2, hsm2, hC2, hK2⟩
  obtain ⟨AN', cN', AS', cS', AO', cO', AI', cI', rfl, rfl, rfl, rfl⟩ := hr2.now.form
  have hs1 := HK1.out.size
  have hrb := (hK2.block w.heap.size (by omega) (by omega)).trans ((HK1.out.block w.heap.size (by omega) (by omega)).trans HX0.out)
  have z0 : w2.cell? ⟨w.heap.size, 0, none⟩ = some (.int .i64 0) := cell_of_row w2 _ 0 _ _ _ hrb
  have z1 : w2.cell? ⟨w.heap.size, 1, none⟩ = some (.slice none 0 0) := cell_of_row w2 _ 1 _ _ _ hrb
  have z2 : w2.cell? ⟨w.heap.size, 2, none⟩ = some (.slice none 0 0) := cell_of_row w2 _ 2 _ _ _ hrb
  have z3 : w2.cell? ⟨w.heap.size, 3, none⟩ = some (.int .i64 0) := cell_of_row w2 _ 3 _ _ _ hrb
  have z4 : w2.cell? ⟨w.heap.size, 4, none⟩ = some (.slice none 0 0) := cell_of_row w2 _ 4 _ _ _ hrb
  have z5 : w2.cell? ⟨w.heap.size, 5, none⟩ = some (.slice none 0 0) := cell_of_row w2 _ 5 _ _ _ hrb
  have f0 := frozen_of_row w2 _ 0 _ _ hrb
  have f1 := frozen_of_row w2 _ 1 _ _ hrb
  have f2 := frozen_of_row w2 _ 2 _ _ hrb
  have f3 := frozen_of_row w2 _ 3 _ _ hrb
  have f4 := frozen_of_row w2 _ 4 _ _ hrb
  have f5 := frozen_of_row w2 _ 5 _ _ hrb
  have HRB := Lib.hid hrb
  have HR2 := Lib.hid hr2
  have HSM := Lib.hid hsm2
  have HK2 := Lib.hid hK2
  clear hr2 hsm2 hC2 hK2 hrb
  go_wp2_with fail
  have e0 := heap_setCell_same w2 w.heap.size 0 _ _ (.int .i64 g.roots) HRB.out
  have e1 := heap_setCell_same _ w.heap.size 1 _ _ (.slice AN' g.nodes.length cN') e0
  have e2 := heap_setCell_same _ w.heap.size 2 _ _ (.slice AS' g.sites.length cS') e1
  have e3 := heap_setCell_same _ w.heap.size 3 _ _ (.int .i64 g.edges) e2
  have e4 := heap_setCell_same _ w.heap.size 4 _ _ (.slice AO' g.outer.length cO') e3
  have e5 := heap_setCell_same _ w.heap.size 5 _ _ (.slice AI' g.inner.length cI') e4
  have hKF := (((((((Kept.refl (fun q => q = w.heap.size) w2).setCell (p := ⟨w.heap.size, 0, none⟩) rfl (.int .i64 g.roots)).setCell (p := ⟨w.heap.size, 1, none⟩) rfl (.slice AN' g.nodes.length cN')).setCell (p := ⟨w.heap.size, 2, none⟩) rfl (.slice AS' g.sites.length cS')).setCell (p := ⟨w.heap.size, 3, none⟩) rfl (.int .i64 g.edges)).setCell (p := ⟨w.heap.size, 4, none⟩) rfl (.slice AO' g.outer.length cO')).setCell (p := ⟨w.heap.size, 5, none⟩) rfl (.slice AI' g.inner.length cI'))
  (try simp only [Exit.inBlock, Exit.then])
  refine bodyPost_ret (results_tmp_row rfl _ _ w.heap.size _ #[.int .i64 g.roots, .slice AN' g.nodes.length cN', .slice AS' g.sites.length cS', .int .i64 g.edges, .slice AO' g.outer.length cO', .slice AI' g.inner.length cI'] _ _ rfl e5 Tryd.underlying30 rfl (by kernel_rfl)) rfl ?_
  refine ⟨gv, _, _, _, _, sig, g, rfl, fun W hW => ?_, ?_⟩
  · have hKW := hKF.mono (T := fun q => q ≤ w.heap.size) (fun q hq => by omega)
    have hKX := hKW.trans (hW.mono fun q hq => by omega)
    have hso := ownsK (ownsK HD1.out.own HK2.out (fun q hq => by have := (HD1.out.own.lt q hq).1; omega)) hKX (fun q hq => by have := (HD1.out.own.lt q hq).1; omega)
    exact { sg := ct_rsl hso HD1.out.small.len, sz := HD1.out.small, cap := owns_capOk hso, rg := HR2.out _ (hKX.mono fun q hq => by omega), sm := HSM.out }
  have k1 := HB0.out
  have k2 := (HK1.out.trans HK2.out).mono (T := fun q => w.heap.size ≤ q) (fun q hq => by omega)
  have k3 := k2.trans (hKF.mono fun q hq => by omega)
  have k4 := (Kept.of_below k1 (fun q => w.heap.size ≤ q)).trans k3
  exact ⟨k4.os, k4.tape, k4.output, k4.size, fun q hq => k4.block q hq (by omega)⟩

theorem drawLinkParts_any (A : Option Addr) (bs : List Int) (c : Nat) (w : World) (hA : Cells w A (u8s bs)) (hrng : ∀ x ∈ bs, 0 ≤ x ∧ x < 256) (hlen : bs.length ≤ 1000000000000) :
    Calls Tryd.prog 5 #[.slice A bs.length c] w fun e w' => ∃ gv nv sv ov iv sig g, e = .returned (.tuple #[gv, .agg #[.int .i64 g.roots, nv, sv, .int .i64 g.edges, ov, iv]]) ∧ (∀ W, Kept (fun q => q < w.heap.size) w' W → DG W gv nv sv ov iv sig g) ∧ Below w.heap.size w w' := by
  obtain ⟨w1, hw1⟩ : ∃ w1, w1 = w.alloc (.cells #[.int .i64 0, .slice none 0 0, .slice none 0 0, .int .i64 0, .slice none 0 0, .slice none 0 0] 30) := ⟨_, rfl⟩
  have hb1 : Below w.heap.size w w1 := by rw [hw1]; exact (Below.refl _ _).alloc (Nat.le_refl _) _
  have hs1 : w1.heap.size = w.heap.size + 1 := by rw [hw1]; simp
  have bx1 : w1.heap[w.heap.size]? = some (.cells #[.int .i64 0, .slice none 0 0, .slice none 0 0, .int .i64 0, .slice none 0 0, .slice none 0 0] 30) := by rw [hw1]; exact heap_alloc_new _ _
  have HD := Lib.hid (drawIsBigraph_any A bs c w1 (hA.below hb1) hrng hlen)
  have HB1 := Lib.hid hb1
  have HX1 := Lib.hid bx1
  have HW1 := Lib.hid hw1
  clear hb1 bx1 hw1 hA
  go_enter Tryd.func5, Tryd.ntmps5
  go_wp2_with fail
  rw [← HW1.out]
  (with_reducible refine HD.out.mono ?_)
  rintro e w2 ⟨gv, nv, sv, ov, iv, sig, g, rfl, hd2, hb2⟩
  obtain ⟨AN', cN', AS', cS', AO', cO', AI', cI', rfl, rfl, rfl, rfl⟩ := (hd2 w2 (Kept.refl _ _)).rg.form
  have hrb := (hb2.block w.heap.size (by omega)).trans HX1.out
  have z0 : w2.cell? ⟨w.heap.size, 0, none⟩ = some (.int .i64 0) := cell_of_row w2 _ 0 _ _ _ hrb
  have z1 : w2.cell? ⟨w.heap.size, 1, none⟩ = some (.slice none 0 0) := cell_of_row w2 _ 1 _ _ _ hrb
  have z2 : w2.cell? ⟨w.heap.size, 2, none⟩ = some (.slice none 0 0) := cell_of_row w2 _ 2 _ _ _ hrb
  have z3 : w2.cell? ⟨w.heap.size, 3, none⟩ = some (.int .i64 0) := cell_of_row w2 _ 3 _ _ _ hrb
  have z4 : w2.cell? ⟨w.heap.size, 4, none⟩ = some (.slice none 0 0) := cell_of_row w2 _ 4 _ _ _ hrb
  have z5 : w2.cell? ⟨w.heap.size, 5, none⟩ = some (.slice none 0 0) := cell_of_row w2 _ 5 _ _ _ hrb
  have f0 := frozen_of_row w2 _ 0 _ _ hrb
  have f1 := frozen_of_row w2 _ 1 _ _ hrb
  have f2 := frozen_of_row w2 _ 2 _ _ hrb
  have f3 := frozen_of_row w2 _ 3 _ _ hrb
  have f4 := frozen_of_row w2 _ 4 _ _ hrb
  have f5 := frozen_of_row w2 _ 5 _ _ hrb
  have HRB := Lib.hid hrb
  have HD2 := Lib.hid hd2
  have HB2 := Lib.hid hb2
  clear hd2 hb2 hrb
  go_wp2_with fail
  have e0 := heap_setCell_same w2 w.heap.size 0 _ _ (.int .i64 g.roots) HRB.out
  have e1 := heap_setCell_same _ w.heap.size 1 _ _ (.slice AN' g.nodes.length cN') e0
  have e2 := heap_setCell_same _ w.heap.size 2 _ _ (.slice AS' g.sites.length cS') e1
  have e3 := heap_setCell_same _ w.heap.size 3 _ _ (.int .i64 g.edges) e2
  have e4 := heap_setCell_same _ w.heap.size 4 _ _ (.slice AO' g.outer.length cO') e3
  have e5 := heap_setCell_same _ w.heap.size 5 _ _ (.slice AI' g.inner.length cI') e4
  have hKF := (((((((Kept.refl (fun q => q = w.heap.size) w2).setCell (p := ⟨w.heap.size, 0, none⟩) rfl (.int .i64 g.roots)).setCell (p := ⟨w.heap.size, 1, none⟩) rfl (.slice AN' g.nodes.length cN')).setCell (p := ⟨w.heap.size, 2, none⟩) rfl (.slice AS' g.sites.length cS')).setCell (p := ⟨w.heap.size, 3, none⟩) rfl (.int .i64 g.edges)).setCell (p := ⟨w.heap.size, 4, none⟩) rfl (.slice AO' g.outer.length cO')).setCell (p := ⟨w.heap.size, 5, none⟩) rfl (.slice AI' g.inner.length cI'))
  (try simp only [Exit.inBlock, Exit.then])
  refine bodyPost_ret (results_tmp_row rfl _ _ w.heap.size _ #[.int .i64 g.roots, .slice AN' g.nodes.length cN', .slice AS' g.sites.length cS', .int .i64 g.edges, .slice AO' g.outer.length cO', .slice AI' g.inner.length cI'] _ _ rfl e5 Tryd.underlying30 rfl (by kernel_rfl)) rfl ?_
  refine ⟨gv, _, _, _, _, sig, g, rfl, fun W hW => HD2.out W ((hKF.mono fun q hq => by omega).trans (hW.mono fun q hq => by omega)), ?_⟩
  have k1 := HB1.out
  have k2 := (Kept.of_below HB2.out (fun q => w.heap.size ≤ q)).trans (hKF.mono fun q hq => by omega)
  have k4 := (Kept.of_below k1 (fun q => w.heap.size ≤ q)).trans k2
  exact ⟨k4.os, k4.tape, k4.output, k4.size, fun q hq => k4.block q hq (by omega)⟩

end Go.Proofs.YtmnnbgciakigfaaDoor
