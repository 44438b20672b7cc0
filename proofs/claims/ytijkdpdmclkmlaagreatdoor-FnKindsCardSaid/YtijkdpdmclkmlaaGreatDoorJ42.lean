/- Two bigraphs of which the second has no nodes: the reference compares them. -/
import Derived.Test.YtijkdpdmclkmlaaGreatDoorProg
import Derived.Test.YtijkdpdmclkmlaaGreatDoorJ41
import Derived.BigQuiet
set_option linter.unusedSimpArgs false
set_option linter.unusedVariables false
set_option linter.unusedSimpArgs false
namespace Go.Proofs.YtijkdpdmclkmlaaGreatDoor
open Go.RowKit

set_option maxRecDepth 100000 in
set_option maxHeartbeats 16000000 in
theorem l2Same_any (g h : Gr) (nv sv ov iv nv2 sv2 ov2 iv2 : Value) (w : World) (hs : SmallG g) (hs2 : SmallG h) (hnil : h.nodes = []) (hG : RGr w nv sv ov iv g) (hH : RGr w nv2 sv2 ov2 iv2 h) :
  Calls Tryz.prog 174 #[.agg #[.int .i64 g.roots, nv, sv, .int .i64 g.edges, ov, iv], .agg #[.int .i64 h.roots, nv2, sv2, .int .i64 h.edges, ov2, iv2]] w fun e w' => e = .returned (.bool (eqI g h)) ∧ Below w.heap.size w w' := by
 have HG := Lib.hid (show ∀ W, Below w.heap.size w W → RGr W nv sv ov iv g from fun W hb => hG.below hb)
 have HH := Lib.hid (show ∀ W, Below w.heap.size w W → RGr W nv2 sv2 ov2 iv2 h from fun W hb => hH.below hb)
 have n1 := hs.nodes
 have n2 := hs.sites
 have n3 := hs.outer
 have n4 := hs.inner
 have m1 := hs2.nodes
 have m2 := hs2.sites
 have m3 := hs2.outer
 have m4 := hs2.inner
 have hn0 : h.nodes.length = 0 := by rw [hnil]; rfl
 have HNN := Lib.hid (show decide (g.nodes.length = 0) = decide (g.nodes = []) from by rw [decide_eq_decide, List.length_eq_zero_iff])
 have HPT := Lib.hid (show eqI g h = ((g.roots == h.roots) && (g.edges == h.edges) && decide (g.sites = h.sites) && decide (g.outer = h.outer) && decide (g.inner = h.inner) && decide (g.nodes = [])) from rfl)
 obtain ⟨AN, cN, AS, cS, AO, cO, AI, cI, rfl, rfl, rfl, rfl⟩ := hG.form
 obtain ⟨AN2, cN2, AS2, cS2, AO2, cO2, AI2, cI2, rfl, rfl, rfl, rfl⟩ := hH.form
 rw [hn0] at HH ⊢
 obtain ⟨w0, hw0⟩ : ∃ w0, w0 = (w.alloc (.cells #[.int .i64 g.roots, .slice AN g.nodes.length cN, .slice AS g.sites.length cS, .int .i64 g.edges, .slice AO g.outer.length cO, .slice AI g.inner.length cI] 31)).alloc (.cells #[.int .i64 h.roots, .slice AN2 0 cN2, .slice AS2 h.sites.length cS2, .int .i64 h.edges, .slice AO2 h.outer.length cO2, .slice AI2 h.inner.length cI2] 31) := ⟨_, rfl⟩
 have hb0 : Below w.heap.size w w0 := by rw [hw0]; exact ((Below.refl _ _).alloc (Nat.le_refl _) _).alloc (by simp) _
 have bx0 : w0.heap[w.heap.size]? = some (.cells #[.int .i64 g.roots, .slice AN g.nodes.length cN, .slice AS g.sites.length cS, .int .i64 g.edges, .slice AO g.outer.length cO, .slice AI g.inner.length cI] 31) := by rw [hw0]; exact (heap_alloc_old _ _ (by simp)).trans (heap_alloc_new _ _)
 have by0 : w0.heap[w.heap.size + 1]? = some (.cells #[.int .i64 h.roots, .slice AN2 0 cN2, .slice AS2 h.sites.length cS2, .int .i64 h.edges, .slice AO2 h.outer.length cO2, .slice AI2 h.inner.length cI2] 31) := by
  have h := heap_alloc_new (w.alloc (.cells #[.int .i64 g.roots, .slice AN g.nodes.length cN, .slice AS g.sites.length cS, .int .i64 g.edges, .slice AO g.outer.length cO, .slice AI g.inner.length cI] 31)) (.cells #[.int .i64 h.roots, .slice AN2 0 cN2, .slice AS2 h.sites.length cS2, .int .i64 h.edges, .slice AO2 h.outer.length cO2, .slice AI2 h.inner.length cI2] 31)
  rw [World.size_alloc] at h
  rw [hw0]; exact h
 have hsz0 : w0.heap.size = w.heap.size + 1 + 1 := by rw [hw0]; simp
 have HX := Lib.hid (show ∀ W, Below w0.heap.size w0 W → W.heap[w.heap.size]? = some (.cells #[.int .i64 g.roots, .slice AN g.nodes.length cN, .slice AS g.sites.length cS, .int .i64 g.edges, .slice AO g.outer.length cO, .slice AI g.inner.length cI] 31) from fun W hW => (hW.block _ (by omega)).trans bx0)
 have HY := Lib.hid (show ∀ W, Below w0.heap.size w0 W → W.heap[w.heap.size + 1]? = some (.cells #[.int .i64 h.roots, .slice AN2 0 cN2, .slice AS2 h.sites.length cS2, .int .i64 h.edges, .slice AO2 h.outer.length cO2, .slice AI2 h.inner.length cI2] 31) from fun W hW => (hW.block _ (by omega)).trans by0)
 have HB0 := Lib.hid hb0
 have HW0 := Lib.hid hw0
 have x0 := cell_of_row _ _ 0 _ _ _ bx0
 have x1 := cell_of_row _ _ 1 _ _ _ bx0
 have x2 := cell_of_row _ _ 2 _ _ _ bx0
 have x3 := cell_of_row _ _ 3 _ _ _ bx0
 have x4 := cell_of_row _ _ 4 _ _ _ bx0
 have x5 := cell_of_row _ _ 5 _ _ _ bx0
 have y0 := cell_of_row _ _ 0 _ _ _ by0
 have y1 := cell_of_row _ _ 1 _ _ _ by0
 have y2 := cell_of_row _ _ 2 _ _ _ by0
 have y3 := cell_of_row _ _ 3 _ _ _ by0
 have y4 := cell_of_row _ _ 4 _ _ _ by0
 have y5 := cell_of_row _ _ 5 _ _ _ by0
 rw [hw0] at x0 x1 x2 x3 x4 x5 y0 y1 y2 y3 y4 y5
 have HCS := Lib.hid (show ∀ W, Below w.heap.size w W → Calls Tryz.prog 232 #[.slice AS g.sites.length cS, .slice AS2 h.sites.length cS2] W _ from fun W hb => l1Same_any AS AS2 cS cS2 g.sites h.sites W (by omega) (by omega) (by obtain ⟨A', c', e, hc⟩ := (HG.out W hb).s; cases e; exact hc) (by obtain ⟨A', c', e, hc⟩ := (HH.out W hb).s; cases e; exact hc))
 clear hs hs2 hG hH hb0 bx0 by0 hw0 hnil
 cases c0 : (g.roots == h.roots)
 ·have HE := Lib.hid (show eqI g h = false from by rw [HPT.out, c0]; rfl)
  have q0 : (g.roots != h.roots) = true := by rw [bne, c0]; rfl
  go_enter Tryz.func174, Tryz.ntmps174
  go_wp2_with fail
  rw [← HW0.out]
  go_ret
  exact ⟨by rw [HE.out]; rfl, HB0.out⟩
 ·cases c1 : (g.edges == h.edges)
  ·have HE := Lib.hid (show eqI g h = false from by rw [HPT.out, c0, c1]; rfl)
   have q0 : (g.roots != h.roots) = false := by rw [bne, c0]; rfl
   have q1 : (g.edges != h.edges) = true := by rw [bne, c1]; rfl
   go_enter Tryz.func174, Tryz.ntmps174
   go_wp2_with fail
   rw [← HW0.out]
   go_ret
   exact ⟨by rw [HE.out]; rfl, HB0.out⟩
  ·cases c2 : ((g.nodes.length : Int) == 0)
   ·have HE := Lib.hid (show eqI g h = false from by rw [HPT.out, ← HNN.out, decide_eq_false (show ¬ g.nodes.length = 0 from fun e => by rw [e] at c2; simp at c2), Bool.and_false])
    have q0 : (g.roots != h.roots) = false := by rw [bne, c0]; rfl
    have q1 : (g.edges != h.edges) = false := by rw [bne, c1]; rfl
    have q2 : ((g.nodes.length : Int) != 0) = true := by rw [bne, c2]; rfl
    go_enter Tryz.func174, Tryz.ntmps174
    go_wp2_with fail
    rw [← HW0.out]
    go_ret
    exact ⟨by rw [HE.out]; rfl, HB0.out⟩
   ·cases c3 : ((g.outer.length : Int) == (h.outer.length : Int))
    ·have HE := Lib.hid (show eqI g h = false from by rw [HPT.out, decide_eq_false (show ¬ g.outer = h.outer from fun e => by rw [e] at c3; simp at c3)]; simp)
     have q0 : (g.roots != h.roots) = false := by rw [bne, c0]; rfl
     have q1 : (g.edges != h.edges) = false := by rw [bne, c1]; rfl
     have q2 : ((g.nodes.length : Int) != 0) = false := by rw [bne, c2]; rfl
     have q3 : ((g.outer.length : Int) != (h.outer.length : Int)) = true := by rw [bne, c3]; rfl
     go_enter Tryz.func174, Tryz.ntmps174
     go_wp2_with fail
     rw [← HW0.out]
     go_ret
     exact ⟨by rw [HE.out]; rfl, HB0.out⟩
    ·cases c4 : ((g.inner.length : Int) == (h.inner.length : Int))
     ·have HE := Lib.hid (show eqI g h = false from by rw [HPT.out, decide_eq_false (show ¬ g.inner = h.inner from fun e => by rw [e] at c4; simp at c4)]; simp)
      have q0 : (g.roots != h.roots) = false := by rw [bne, c0]; rfl
      have q1 : (g.edges != h.edges) = false := by rw [bne, c1]; rfl
      have q2 : ((g.nodes.length : Int) != 0) = false := by rw [bne, c2]; rfl
      have q3 : ((g.outer.length : Int) != (h.outer.length : Int)) = false := by rw [bne, c3]; rfl
      have q4 : ((g.inner.length : Int) != (h.inner.length : Int)) = true := by rw [bne, c4]; rfl
      go_enter Tryz.func174, Tryz.ntmps174
      go_wp2_with fail
      rw [← HW0.out]
      go_ret
      exact ⟨by rw [HE.out]; rfl, HB0.out⟩
     ·cases c5 : (decide (g.sites = h.sites))
      ·have HE := Lib.hid (show eqI g h = false from by rw [HPT.out, c5]; simp)
       have q0 : (g.roots != h.roots) = false := by rw [bne, c0]; rfl
       have q1 : (g.edges != h.edges) = false := by rw [bne, c1]; rfl
       have q2 : ((g.nodes.length : Int) != 0) = false := by rw [bne, c2]; rfl
       have q3 : ((g.outer.length : Int) != (h.outer.length : Int)) = false := by rw [bne, c3]; rfl
       have q4 : ((g.inner.length : Int) != (h.inner.length : Int)) = false := by rw [bne, c4]; rfl
       have HC := Lib.hid (HCS.out w0 HB0.out)
       rw [show sameI g.sites h.sites = decide (g.sites = h.sites) from rfl, c5] at HC
       go_enter Tryz.func174, Tryz.ntmps174
       go_wp2_with fail
       rw [← HW0.out]
       (with_reducible refine HC.out.mono ?_)
       rintro e w1 ⟨rfl, hb⟩
       have HW1 := Lib.hid hb
       have HZ1 := Lib.hid (HB0.out.trans (hb.mono HB0.out.size))
       clear hb x0 x1 x2 x3 x4 x5 y0 y1 y2 y3 y4 y5
       go_wp2_with fail
       go_ret
       exact ⟨by rw [HE.out]; rfl, HZ1.out⟩
      ·have hgn : g.nodes.length = 0 := by rw [beq_iff_eq] at c2; omega
       have hlo : g.outer.length = h.outer.length := by rw [beq_iff_eq] at c3; omega
       have hli : g.inner.length = h.inner.length := by rw [beq_iff_eq] at c4; omega
       have hlt0 : ¬ (0 : Int) < (g.nodes.length : Int) := by omega
       have HP2 := Lib.hid (show eqI g h = (decide (g.outer = h.outer) && decide (g.inner = h.inner)) from by rw [HPT.out, c0, c1, c5, ← HNN.out, decide_eq_true hgn]; simp)
       have HLO := Lib.hid hlo
       have HLI := Lib.hid hli
       clear hgn hlo hli
       have q0 : (g.roots != h.roots) = false := by rw [bne, c0]; rfl
       have q1 : (g.edges != h.edges) = false := by rw [bne, c1]; rfl
       have q2 : ((g.nodes.length : Int) != 0) = false := by rw [bne, c2]; rfl
       have q3 : ((g.outer.length : Int) != (h.outer.length : Int)) = false := by rw [bne, c3]; rfl
       have q4 : ((g.inner.length : Int) != (h.inner.length : Int)) = false := by rw [bne, c4]; rfl
       have HC := Lib.hid (HCS.out w0 HB0.out)
       rw [show sameI g.sites h.sites = decide (g.sites = h.sites) from rfl, c5] at HC
       go_enter Tryz.func174, Tryz.ntmps174
       go_wp2_with fail
       rw [← HW0.out]
       (with_reducible refine HC.out.mono ?_)
       rintro e w1 ⟨rfl, hb⟩
       have HW1 := Lib.hid hb
       have HZ1 := Lib.hid (HB0.out.trans (hb.mono HB0.out.size))
       clear hb x0 x1 x2 x3 x4 x5 y0 y1 y2 y3 y4 y5
       have bxr := HX.out w1 HW1.out
       have byr := HY.out w1 HW1.out
       have x0 := cell_of_row _ _ 0 _ _ _ bxr
       have x1 := cell_of_row _ _ 1 _ _ _ bxr
       have x2 := cell_of_row _ _ 2 _ _ _ bxr
       have x3 := cell_of_row _ _ 3 _ _ _ bxr
       have x4 := cell_of_row _ _ 4 _ _ _ bxr
       have x5 := cell_of_row _ _ 5 _ _ _ bxr
       have y0 := cell_of_row _ _ 0 _ _ _ byr
       have y1 := cell_of_row _ _ 1 _ _ _ byr
       have y2 := cell_of_row _ _ 2 _ _ _ byr
       have y3 := cell_of_row _ _ 3 _ _ _ byr
       have y4 := cell_of_row _ _ 4 _ _ _ byr
       have y5 := cell_of_row _ _ 5 _ _ _ byr
       clear bxr byr
       go_wp2_with fail
       clear x0 x2 x3 x4 x5 y0 y1 y2 y3 y4 y5
       go_loop [5] (fun i => i = .int .i64 0) (fun _ => 0)
       case atStart => exact rfl
       case round =>
        obtain rfl := hrel
        go_wp2_with fail
        clear x1
        go_loopw [6] (fun i wr => ∃ k : Nat, k ≤ g.outer.length ∧ i = .int .i64 k ∧ (∀ j, j < k → g.outer.getD j default = h.outer.getD j default) ∧ Below w0.heap.size w0 wr) (fun i _ => g.outer.length - (intOf i).toNat)
        case atStart => exact ⟨0, Nat.zero_le _, rfl, fun j hj => by omega, HW1.out⟩
        case round =>
         obtain ⟨k, hk, rfl, hall, hbel⟩ := hrel
         have HALL := Lib.hid hall
         have HBE := Lib.hid hbel
         have HZ := Lib.hid (HB0.out.trans (hbel.mono HB0.out.size))
         have bxr := HX.out wr hbel
         have byr := HY.out wr hbel
         have x4 := cell_of_row _ _ 4 _ _ _ bxr
         have y4 := cell_of_row _ _ 4 _ _ _ byr
         clear hall bxr byr hbel
         by_cases hlt : k < g.outer.length
         ·have hlt2 : k < h.outer.length := by have := HLO.out; omega
          obtain ⟨A1, d1, e1, hcA⟩ := (HG.out wr HZ.out).o
          obtain ⟨A2, d2, e2, hcB⟩ := (HH.out wr HZ.out).o
          cases e1
          cases e2
          obtain ⟨b, o, rfl, hc⟩ := hcA.str hlt
          obtain ⟨b', o', rfl, hc'⟩ := hcB.str hlt2
          have c1' := hc k hlt
          have c2' := hc' k hlt2
          have HN := Lib.hid (fun h' : g.outer.getD k default = h.outer.getD k default => show ∀ j, j < k + 1 → g.outer.getD j default = h.outer.getD j default from fun j hj => by
           rcases Nat.lt_succ_iff_lt_or_eq.1 hj with h1 | h1
           ·exact HALL.out j h1
           ·rw [h1]; exact h')
          have HF := Lib.hid (fun h' : g.outer.getD k default ≠ h.outer.getD k default => show eqI g h = false from by rw [HP2.out, decS_no hlt h', Bool.false_and])
          obtain ⟨x, hx⟩ : ∃ x, x = g.outer.getD k default := ⟨_, rfl⟩
          obtain ⟨y, hy⟩ : ∃ y, y = h.outer.getD k default := ⟨_, rfl⟩
          rw [← hx] at c1' HN HF
          rw [← hy] at c2' HN HF
          clear hx hy hc hc' hcA hcB
          have b0 : (0 : Int) ≤ (k : Int) := by omega
          have b1 : (k : Int) < (g.outer.length : Int) := by omega
          have b2 : (k : Int) < (h.outer.length : Int) := by omega
          by_cases he : x = y
          ·have HNN2 := Lib.hid (HN.out he)
           subst he
           have hee := str_eq x
           go_wp2_with fail
           go_quiet (fail)
           go_wp2_with fail
           go_roundw
           case rel => exact ⟨k + 1, by omega, by go_num, HNN2.out, below_drewN' HBE.out _⟩
           case measure => simp [intOf]; omega
          ·have HFF := Lib.hid (HF.out he)
           have hee := str_ne he
           clear he
           go_wp2_with fail
           go_quiet (fail)
           go_wp2_with fail
           go_ret
           exact ⟨by rw [HFF.out]; rfl, below_drewN' HZ.out _⟩
         ·obtain rfl : k = g.outer.length := by omega
          have HP3 := Lib.hid (show eqI g h = decide (g.inner = h.inner) from by rw [HP2.out, decS_yes HLO.out HALL.out, Bool.true_and])
          go_wp2_with fail
          obtain ⟨wa, hwa⟩ : ∃ wa, wa = wr := ⟨_, rfl⟩
          subst hwa
          clear x4 y4
          go_loopw [7] (fun i wr => ∃ k : Nat, k ≤ g.inner.length ∧ i = .int .i64 k ∧ (∀ j, j < k → g.inner.getD j wi0 = h.inner.getD j wi0) ∧ Below w0.heap.size w0 wr) (fun i _ => g.inner.length - (intOf i).toNat)
          case atStart => exact ⟨0, Nat.zero_le _, rfl, fun j hj => by omega, HBE.out⟩
          case round =>
           obtain ⟨k, hk, rfl, hall, hbel⟩ := hrel
           have HALL2 := Lib.hid hall
           have HBE2 := Lib.hid hbel
           have HZ2 := Lib.hid (HB0.out.trans (hbel.mono HB0.out.size))
           have bxr := HX.out wr hbel
           have byr := HY.out wr hbel
           have x5 := cell_of_row _ _ 5 _ _ _ bxr
           have y5 := cell_of_row _ _ 5 _ _ _ byr
           clear hall bxr byr hbel
           by_cases hlt : k < g.inner.length
           ·have hlt2 : k < h.inner.length := by have := HLI.out; omega
            obtain ⟨b, o, c', ev, a1, a2⟩ := wi_at (HG.out wr HZ2.out).i hlt
            obtain ⟨b', o', c'', ev', d1, d2⟩ := wi_at (HH.out wr HZ2.out).i hlt2
            cases ev
            cases ev'
            have g1 : g.inner.getD k wi0 = g.inner[k] := by rw [List.getD_eq_getElem?_getD, List.getElem?_eq_getElem hlt]; rfl
            have g2 : h.inner.getD k wi0 = h.inner[k] := by rw [List.getD_eq_getElem?_getD, List.getElem?_eq_getElem hlt2]; rfl
            have HN := Lib.hid (fun h' : g.inner[k] = h.inner[k] => show ∀ j, j < k + 1 → g.inner.getD j wi0 = h.inner.getD j wi0 from fun j hj => by
             rcases Nat.lt_succ_iff_lt_or_eq.1 hj with h1 | h1
             ·exact HALL2.out j h1
             ·rw [h1, g1, g2]; exact h')
            have HF := Lib.hid (fun h' : g.inner[k] ≠ h.inner[k] => show eqI g h = false from by rw [HP3.out]; exact decW_no (ys := h.inner) hlt (by rw [g1, g2]; exact h'))
            obtain ⟨x, hx⟩ : ∃ x, x = g.inner[k] := ⟨_, rfl⟩
            obtain ⟨y, hy⟩ : ∃ y, y = h.inner[k] := ⟨_, rfl⟩
            rw [← hx] at a1 a2 HN HF
            rw [← hy] at d1 d2 HN HF
            obtain ⟨z1, z2⟩ := x
            obtain ⟨y1', y2'⟩ := y
            dsimp only at a1 a2 d1 d2
            have EQ := Lib.hid (eqWiG z1 y1' z2 y2')
            clear hx hy g1 g2
            have b0 : (0 : Int) ≤ (k : Int) := by omega
            have b1 : (k : Int) < (g.inner.length : Int) := by omega
            have b2 : (k : Int) < (h.inner.length : Int) := by omega
            cases he : (z1.toList == y1'.toList && z2 == y2')
            ·have HFF := Lib.hid (HF.out (wiEq_false (x := (z1, z2)) (y := (y1', y2')) he))
             have EQ2 := EQ.out
             rw [he] at EQ2
             clear he
             go_wp2_with fail
             go_quiet (fail)
             go_wp2_with fail
             go_ret
             exact ⟨by rw [HFF.out]; rfl, below_drewN' HZ2.out _⟩
            ·have HNN2 := Lib.hid (HN.out (wiEq_true (x := (z1, z2)) (y := (y1', y2')) he))
             have EQ2 := EQ.out
             rw [he] at EQ2
             clear he
             go_wp2_with fail
             go_quiet (fail)
             go_wp2_with fail
             go_roundw
             case rel => exact ⟨k + 1, by omega, by go_num, HNN2.out, below_drewN' HBE2.out _⟩
             case measure => simp [intOf]; omega
           ·obtain rfl : k = g.inner.length := by omega
            have HE := Lib.hid (show eqI g h = true from by rw [HP3.out]; exact decW_yes HLI.out HALL2.out)
            go_wp2_with fail
            go_ret
            exact ⟨by rw [HE.out]; rfl, HZ2.out⟩

end Go.Proofs.YtijkdpdmclkmlaaGreatDoor
