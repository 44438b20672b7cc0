/- The draw of a kind's argument. The laws' own helpers over lists of numbers: vInts, vHas, vBig. -/
import Derived.Test.YtijkdpdmclkmlaaGreatDoorProg
import Derived.Test.YtijkdpdmclkmlaaGreatDoorJ47
import Derived.BigQuiet
import Derived.Test.YtijkdpdmclkmlaaGreatDoorJ2
set_option linter.unusedSimpArgs false
set_option linter.unusedVariables false
namespace Go.Proofs.YtijkdpdmclkmlaaGreatDoor
open Go.RowKit

set_option maxRecDepth 100000 in
set_option maxHeartbeats 4000000 in
theorem drawIsPlacing_any (A : Option Addr) (bs : List Int) (c : Nat) (w : World) (hA : Cells w A (u8s bs)) (hrng : ∀ x ∈ bs, 0 ≤ x ∧ x < 256) (hlen : bs.length ≤ 1000000000000) :
    Calls Tryz.prog 76 #[.slice A bs.length c] w fun e w' => ∃ gv nv sv ov iv sig g, e = .returned (.tuple #[gv, .agg #[.int .i64 g.roots, nv, sv, .int .i64 g.edges, ov, iv]]) ∧ (∀ W, Kept (fun q => q < w.heap.size) w' W → DG W gv nv sv ov iv sig g) ∧ Below w.heap.size w w' := by
  obtain ⟨W0, hW0⟩ : ∃ W0, W0 = (w.alloc (.cells #[.int .i64 0, .slice none 0 0, .slice none 0 0, .int .i64 0, .slice none 0 0, .slice none 0 0] 31)).alloc (.cells #[.slice A bs.length c, .int .i64 0, .int .u64 0] 72) := ⟨_, rfl⟩
  have hb0 : Below w.heap.size w W0 := by rw [hW0]; exact ((Below.refl _ _).alloc (Nat.le_refl _) _).alloc (by simp) _
  have hs0 : W0.heap.size = w.heap.size + 1 + 1 := by rw [hW0]; simp
  have bx0 : W0.heap[w.heap.size]? = some (.cells #[.int .i64 0, .slice none 0 0, .slice none 0 0, .int .i64 0, .slice none 0 0, .slice none 0 0] 31) := by
    rw [hW0]
    exact (heap_alloc_old _ _ (by simp)).trans (heap_alloc_new _ _)
  have hC : Cur W0 (w.heap.size + 1) A bs c 0 := by
    have h := Cur.start (c := c) (hA.below (((Below.refl w.heap.size w).alloc (Nat.le_refl _) (.cells #[.int .i64 0, .slice none 0 0, .slice none 0 0, .int .i64 0, .slice none 0 0, .slice none 0 0] 31)))) hrng hlen
    rw [World.size_alloc] at h
    rw [hW0]; exact h
  have HS1 := Lib.hid (sig_any (w.heap.size + 1) A bs c 0 W0 hC (by omega))
  have HB0 := Lib.hid hb0
  have HX0 := Lib.hid bx0
  have HW0 := Lib.hid hW0
  clear hC hb0 bx0 hW0 hA
  go_enter Tryz.func76, Tryz.ntmps76
  go_wp2_with fail
  rw [← HW0.out]
  (with_reducible refine HS1.out.mono ?_)
  rintro e w1 ⟨gv, sig, rfl, hD1, hC1, hK1⟩
  have HK1 := Lib.hid hK1
  have HD1 := Lib.hid hD1
  have HB2 := Lib.hid (show Calls Tryz.prog 157 #[.pointer (some ⟨w.heap.size + 1, 0, none⟩), gv] w1 _ from plain_any (w.heap.size + 1) A bs c (0 + 20) W0.heap.size gv sig w1 hC1 (by omega) (by omega) hD1.own hD1.small hD1.ports)
  clear hK1 hD1 hC1
  go_wp2_with fail
  (with_reducible refine HB2.out.mono ?_)
  rintro e w2 ⟨nv, sv, ov, iv, g, rfl, hr2, hsm2, hC2, hK2⟩
  obtain ⟨AN', cN', AS', cS', AO', cO', AI', cI', rfl, rfl, rfl, rfl⟩ := hr2.now.form
  have hs1 := HK1.out.size
  have hrb := (hK2.block w.heap.size (by omega) (by omega)).trans ((HK1.out.block w.heap.size (by omega) (by omega)).trans HX0.out)
  have z0 : w2.cell? ⟨w.heap.size, 0, none⟩ = some (.int .i64 0) := cell_of_row w2 _ 0 _ _ _ hrb
  have z1 : w2.cell? ⟨w.heap.size, 1, none⟩ = some (.slice none 0 0) := cell_of_row w2 _ 1 _ _ _ hrb
  have z2 : w2.cell? ⟨w.heap.size, 2, none⟩ = some (.slice none 0 0) := cell_of_row w2 _ 2 _ _ _ hrb
  have z3 : w2.cell? ⟨w.heap.size, 3, none⟩ = some (.int .i64 0) := cell_of_row w2 _ 3 _ _ _ hrb
  have z4 : w2.cell? ⟨w.heap.size, 4, none⟩ = some (.slice none 0 0) := cell_of_row w2 _ 4 _ _ _ hrb
  have z5 : w2.cell? ⟨w.heap.size, 5, none⟩ = some (.slice none 0 0) := cell_of_row w2 _ 5 _ _ _ hrb
  have f0 := frozen_of_row w2 _ 0 _ _ hrb
  have f1 := frozen_of_row w2 _ 1 _ _ hrb
  have f2 := frozen_of_row w2 _ 2 _ _ hrb
  have f3 := frozen_of_row w2 _ 3 _ _ hrb
  have f4 := frozen_of_row w2 _ 4 _ _ hrb
  have f5 := frozen_of_row w2 _ 5 _ _ hrb
  have HRB := Lib.hid hrb
  have HR2 := Lib.hid hr2
  have HSM := Lib.hid hsm2
  have HK2 := Lib.hid hK2
  clear hr2 hsm2 hC2 hK2 hrb
  go_wp2_with fail
  have e0 := heap_setCell_same w2 w.heap.size 0 _ _ (.int .i64 g.roots) HRB.out
  have e1 := heap_setCell_same _ w.heap.size 1 _ _ (.slice AN' g.nodes.length cN') e0
  have e2 := heap_setCell_same _ w.heap.size 2 _ _ (.slice AS' g.sites.length cS') e1
  have e3 := heap_setCell_same _ w.heap.size 3 _ _ (.int .i64 g.edges) e2
  have e4 := heap_setCell_same _ w.heap.size 4 _ _ (.slice AO' g.outer.length cO') e3
  have e5 := heap_setCell_same _ w.heap.size 5 _ _ (.slice AI' g.inner.length cI') e4
  have hKF := (((((((Kept.refl (fun q => q = w.heap.size) w2).setCell (p := ⟨w.heap.size, 0, none⟩) rfl (.int .i64 g.roots)).setCell (p := ⟨w.heap.size, 1, none⟩) rfl (.slice AN' g.nodes.length cN')).setCell (p := ⟨w.heap.size, 2, none⟩) rfl (.slice AS' g.sites.length cS')).setCell (p := ⟨w.heap.size, 3, none⟩) rfl (.int .i64 g.edges)).setCell (p := ⟨w.heap.size, 4, none⟩) rfl (.slice AO' g.outer.length cO')).setCell (p := ⟨w.heap.size, 5, none⟩) rfl (.slice AI' g.inner.length cI'))
  (try simp only [Exit.inBlock, Exit.then])
  refine bodyPost_ret (results_tmp_row rfl _ _ w.heap.size _ #[.int .i64 g.roots, .slice AN' g.nodes.length cN', .slice AS' g.sites.length cS', .int .i64 g.edges, .slice AO' g.outer.length cO', .slice AI' g.inner.length cI'] _ _ rfl e5 Tryz.underlying31 rfl (by kernel_rfl)) rfl ?_
  refine ⟨gv, _, _, _, _, sig, g, rfl, fun W hW => ?_, ?_⟩
  · have hKW := hKF.mono (T := fun q => q ≤ w.heap.size) (fun q hq => by omega)
    have hKX := hKW.trans (hW.mono fun q hq => by omega)
    have hso := ownsK (ownsK HD1.out.own HK2.out (fun q hq => by have := (HD1.out.own.lt q hq).1; omega)) hKX (fun q hq => by have := (HD1.out.own.lt q hq).1; omega)
    exact { sg := ct_rsl hso HD1.out.small.len, sz := HD1.out.small, cap := owns_capOk hso, rg := HR2.out _ (hKX.mono fun q hq => by omega), sm := HSM.out }
  have k1 := HB0.out
  have k2 := (HK1.out.trans HK2.out).mono (T := fun q => w.heap.size ≤ q) (fun q hq => by omega)
  have k3 := k2.trans (hKF.mono fun q hq => by omega)
  have k4 := (Kept.of_below k1 (fun q => w.heap.size ≤ q)).trans k3
  exact ⟨k4.os, k4.tape, k4.output, k4.size, fun q hq => k4.block q hq (by omega)⟩

end Go.Proofs.YtijkdpdmclkmlaaGreatDoor

set_option linter.unusedVariables false
namespace Go.Proofs.YtijkdpdmclkmlaaGreatDoor
open Go.RowKit

theorem vBig_any (A : Option Addr) (n c : Nat) (w : World) (hn : n ≤ maxLen) :
    Calls Tryz.prog 10 #[.slice A n c] w fun e w' => e = .returned (.bool (decide (65536 < n))) ∧ w = w' := by
  by_cases h : 65536 < n
  · have h' : (65536 : Int) < (n : Int) := by omega
    go_enter Tryz.func10, Tryz.ntmps10
    go_wp2
    go_ret
    exact ⟨by simp [h], rfl⟩
  · have h' : ¬ (65536 : Int) < (n : Int) := by omega
    go_enter Tryz.func10, Tryz.ntmps10
    go_wp2
    go_ret
    exact ⟨by simp [h], rfl⟩

end Go.Proofs.YtijkdpdmclkmlaaGreatDoor
