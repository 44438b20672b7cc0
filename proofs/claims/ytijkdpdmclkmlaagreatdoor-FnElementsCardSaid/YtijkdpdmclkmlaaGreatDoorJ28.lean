/- Compares: slices.Equal at strings and inner names; two bigraphs of which the second has no nodes. -/
import Derived.Test.YtijkdpdmclkmlaaGreatDoorProg
import Derived.Test.YtijkdpdmclkmlaaGreatDoorJ0
import Derived.Test.YtijkdpdmclkmlaaGreatDoorJ16
import Derived.Test.YtijkdpdmclkmlaaGreatDoorJ27
import Derived.Test.YtijkdpdmclkmlaaGreatDoorJ1
import Derived.BigQuiet
set_option linter.unusedSimpArgs false
set_option linter.unusedVariables false
set_option maxRecDepth 100000
set_option maxHeartbeats 16000000
namespace Go.Proofs.YtijkdpdmclkmlaaGreatDoor
open Go.RowKit
theorem eqWiG (a c : ByteArray) (b d : Int) (w : World) : (Op.equalIn 10000 90 (.agg #[.string a, .int .i64 b]) (.agg #[.string c, .int .i64 d])).run Tryz.prog w = .ok (a.toList == c.toList && b == d) w := by
 have u3 := Tryz.underlying3
 have a3 := Tryz.isAgg3
 have z3 := Tryz.sizeOf3
 have u9 := Tryz.underlying9
 have a9 := Tryz.isAgg9
 have z9 := Tryz.sizeOf9
 rw [show (10000 : Nat) = 9999 + 1 from rfl, Op.equalIn]
 simp only [Sem.run_bind, run_underlying Tryz.underlying90, Result.andThen_ok]
 have hs : Tryz.prog.stoodInHeld 90 = false := by kernel_rfl
 simp only [List.forIn_toArray, List.forIn_cons, List.forIn_nil]
 go_simp
 by_cases h1 : a.toList = c.toList <;> by_cases h2 : b = d <;> simp [h1, h2]
theorem decS_no {xs ys : List ByteArray} {k : Nat} (hk : k < xs.length) (h : xs.getD k default ≠ ys.getD k default) : decide (xs = ys) = false := decide_eq_false fun e => h (by rw [e])
theorem decS_yes {xs ys : List ByteArray} (hl : xs.length = ys.length) (h : ∀ j, j < xs.length → xs.getD j default = ys.getD j default) : decide (xs = ys) = true := decide_eq_true (by
 apply List.ext_getElem hl
 intro i h1 h2
 have := h i h1
 simpa [List.getD, h1, h2] using this)
theorem decW_no {xs ys : List Wi} {k : Nat} (hk : k < xs.length) (h : xs.getD k wi0 ≠ ys.getD k wi0) : decide (xs = ys) = false := decide_eq_false fun e => h (by rw [e])
theorem decW_yes {xs ys : List Wi} (hl : xs.length = ys.length) (h : ∀ j, j < xs.length → xs.getD j wi0 = ys.getD j wi0) : decide (xs = ys) = true := decide_eq_true (by
 apply List.ext_getElem hl
 intro i h1 h2
 have := h i h1
 simpa [List.getD, h1, h2] using this)
theorem wiEq_true {x y : Wi} (h : (x.1.toList == y.1.toList && x.2 == y.2) = true) : x = y := by
 simp only [Bool.and_eq_true, beq_iff_eq] at h
 exact Prod.ext (toList_inj h.1) h.2
theorem wiEq_false {x y : Wi} (h : (x.1.toList == y.1.toList && x.2 == y.2) = false) : x ≠ y := fun e => by
 subst e
 simp at h

theorem equalSG_any (A B : Option Addr) (c d : Nat) (xs ys : List ByteArray) (w : World) (hn : xs.length ≤ 16777216) (hm : ys.length ≤ 16777216) (hA : Cells w A (strs xs)) (hB : Cells w B (strs ys)) :
  Calls Tryz.prog 148 #[.slice A xs.length c, .slice B ys.length d] w fun e w' => e = .returned (.bool (decide (xs = ys))) ∧ Below w.heap.size w w' := by
 by_cases hl : xs.length = ys.length
 ·have hl' : ((xs.length : Int) == (ys.length : Int)) = true := by simp [hl]
  have hl'' : ((xs.length : Int) != (ys.length : Int)) = false := by simp [hl]
  have HL := Lib.hid hl
  have HA := Lib.hid (show ∀ W, Below w.heap.size w W → Cells W A (strs xs) from fun W hb => hA.below hb)
  have HB := Lib.hid (show ∀ W, Below w.heap.size w W → Cells W B (strs ys) from fun W hb => hB.below hb)
  clear hl hA hB
  go_enter Tryz.func148, Tryz.ntmps148
  go_wp2_with fail
  go_loopw [13] (fun i wr => ∃ k : Nat, k ≤ xs.length ∧ i = .int .i64 k ∧ (∀ j, j < k → xs.getD j default = ys.getD j default) ∧ Below w.heap.size w wr) (fun i _ => xs.length - (intOf i).toNat)
  case atStart => exact ⟨0, Nat.zero_le _, rfl, fun j hj => by omega, Below.refl _ _⟩
  obtain ⟨k, hk, rfl, hall, hbel⟩ := hrel
  have HALL := Lib.hid hall
  have HZ := Lib.hid hbel
  clear hall
  by_cases hlt : k < xs.length
  ·have hlt2 : k < ys.length := by have := HL.out; omega
   obtain ⟨b, o, rfl, hc⟩ := (HA.out wr hbel).str hlt
   obtain ⟨b', o', rfl, hc'⟩ := (HB.out wr hbel).str hlt2
   have c1 := hc k hlt
   have c2 := hc' k hlt2
   clear hc hc' hbel
   have HN := Lib.hid (fun h : xs.getD k default = ys.getD k default => show ∀ j, j < k + 1 → xs.getD j default = ys.getD j default from fun j hj => by
    rcases Nat.lt_succ_iff_lt_or_eq.1 hj with h' | h'
    ·exact HALL.out j h'
    rw [h']; exact h)
   have HF := Lib.hid (fun h : xs.getD k default ≠ ys.getD k default => decS_no hlt h)
   obtain ⟨x, hx⟩ : ∃ x, x = xs.getD k default := ⟨_, rfl⟩
   obtain ⟨y, hy⟩ : ∃ y, y = ys.getD k default := ⟨_, rfl⟩
   rw [← hx] at c1 HN HF
   rw [← hy] at c2 HN HF
   clear hx hy
   have b0 : (0 : Int) ≤ (k : Int) := by omega
   have b1 : (k : Int) < (xs.length : Int) := by omega
   have b2 : (k : Int) < (ys.length : Int) := by omega
   by_cases he : x = y
   ·have HNN := Lib.hid (HN.out he)
    subst he
    have hee := str_eq x
    go_wp2_with fail
    go_quiet (fail)
    go_wp2_with fail
    go_roundw
    case rel => exact ⟨k + 1, by omega, by go_num, HNN.out, below_drewN' HZ.out _⟩
    case measure => simp [intOf]; omega
   have HFF := Lib.hid (HF.out he)
   have hee := str_ne he
   clear he
   go_wp2_with fail
   go_quiet (fail)
   go_wp2_with fail
   go_ret
   exact ⟨by rw [HFF.out]; rfl, below_drewN' HZ.out _⟩
  obtain rfl : k = xs.length := by omega
  have HE := Lib.hid (decS_yes HL.out HALL.out)
  clear hbel
  go_wp2_with fail
  go_ret
  exact ⟨by rw [HE.out]; rfl, HZ.out⟩
 have hl' : ((xs.length : Int) == (ys.length : Int)) = false := by rw [beq_eq_false_iff_ne]; omega
 have hl'' : ((xs.length : Int) != (ys.length : Int)) = true := by rw [bne_iff_ne]; omega
 have HE := Lib.hid (show decide (xs = ys) = false from decide_eq_false fun e => hl (by rw [e]))
 clear hl hA hB
 go_enter Tryz.func148, Tryz.ntmps148
 go_wp2_with fail
 go_ret
 exact ⟨by rw [HE.out]; rfl, Below.refl _ _⟩

theorem equalWG_any (u v : Value) (xs ys : List Wi) (w : World) (hn : xs.length ≤ 16777216) (hm : ys.length ≤ 16777216) (hA : RSl RWi 2 w u xs) (hB : RSl RWi 2 w v ys) :
  Calls Tryz.prog 186 #[u, v] w fun e w' => e = .returned (.bool (decide (xs = ys))) ∧ Below w.heap.size w w' := by
 by_cases hl : xs.length = ys.length
 ·have hl' : ((xs.length : Int) == (ys.length : Int)) = true := by simp [hl]
  have hl'' : ((xs.length : Int) != (ys.length : Int)) = false := by simp [hl]
  have HL := Lib.hid hl
  have HA := Lib.hid (show ∀ W, Below w.heap.size w W → RSl RWi 2 W u xs from fun W hb => hA.below RWi_keep hb)
  have HB := Lib.hid (show ∀ W, Below w.heap.size w W → RSl RWi 2 W v ys from fun W hb => hB.below RWi_keep hb)
  obtain ⟨A, c, rfl, _⟩ := hA.form
  obtain ⟨B, d, rfl, _⟩ := hB.form
  clear hl hA hB
  go_enter Tryz.func186, Tryz.ntmps186
  go_wp2_with fail
  go_loopw [13] (fun i wr => ∃ k : Nat, k ≤ xs.length ∧ i = .int .i64 k ∧ (∀ j, j < k → xs.getD j wi0 = ys.getD j wi0) ∧ Below w.heap.size w wr) (fun i _ => xs.length - (intOf i).toNat)
  case atStart => exact ⟨0, Nat.zero_le _, rfl, fun j hj => by omega, Below.refl _ _⟩
  obtain ⟨k, hk, rfl, hall, hbel⟩ := hrel
  have HALL := Lib.hid hall
  have HZ := Lib.hid hbel
  clear hall
  by_cases hlt : k < xs.length
  ·have hlt2 : k < ys.length := by have := HL.out; omega
   obtain ⟨b, o, c', ev, a1, a2⟩ := wi_at (HA.out wr hbel) hlt
   obtain ⟨b', o', c'', ev', b1', b2'⟩ := wi_at (HB.out wr hbel) hlt2
   cases ev
   cases ev'
   have g1 : xs.getD k wi0 = xs[k] := by rw [List.getD_eq_getElem?_getD, List.getElem?_eq_getElem hlt]; rfl
   have g2 : ys.getD k wi0 = ys[k] := by rw [List.getD_eq_getElem?_getD, List.getElem?_eq_getElem hlt2]; rfl
   clear hbel
   have HN := Lib.hid (fun h : xs[k] = ys[k] => show ∀ j, j < k + 1 → xs.getD j wi0 = ys.getD j wi0 from fun j hj => by
    rcases Nat.lt_succ_iff_lt_or_eq.1 hj with h' | h'
    ·exact HALL.out j h'
    rw [h', g1, g2]; exact h)
   have HF := Lib.hid (fun h : xs[k] ≠ ys[k] => decW_no (ys := ys) hlt (by rw [g1, g2]; exact h))
   obtain ⟨x, hx⟩ : ∃ x, x = xs[k] := ⟨_, rfl⟩
   obtain ⟨y, hy⟩ : ∃ y, y = ys[k] := ⟨_, rfl⟩
   rw [← hx] at a1 a2 HN HF
   rw [← hy] at b1' b2' HN HF
   obtain ⟨x1, x2⟩ := x
   obtain ⟨y1, y2⟩ := y
   dsimp only at a1 a2 b1' b2'
   have EQ := Lib.hid (eqWiG x1 y1 x2 y2)
   clear hx hy g1 g2
   have b0 : (0 : Int) ≤ (k : Int) := by omega
   have b1 : (k : Int) < (xs.length : Int) := by omega
   have b2 : (k : Int) < (ys.length : Int) := by omega
   cases he : (x1.toList == y1.toList && x2 == y2)
   ·have HFF := Lib.hid (HF.out (wiEq_false (x := (x1, x2)) (y := (y1, y2)) he))
    have EQ2 := EQ.out
    rw [he] at EQ2
    clear he
    go_wp2_with fail
    go_quiet (fail)
    go_wp2_with fail
    go_ret
    exact ⟨by rw [HFF.out]; rfl, below_drewN' HZ.out _⟩
   have HNN := Lib.hid (HN.out (wiEq_true (x := (x1, x2)) (y := (y1, y2)) he))
   have EQ2 := EQ.out
   rw [he] at EQ2
   clear he
   go_wp2_with fail
   go_quiet (fail)
   go_wp2_with fail
   go_roundw
   case rel => exact ⟨k + 1, by omega, by go_num, HNN.out, below_drewN' HZ.out _⟩
   case measure => simp [intOf]; omega
  obtain rfl : k = xs.length := by omega
  have HE := Lib.hid (decW_yes HL.out HALL.out)
  clear hbel
  go_wp2_with fail
  go_ret
  exact ⟨by rw [HE.out]; rfl, HZ.out⟩
 have hl' : ((xs.length : Int) == (ys.length : Int)) = false := by rw [beq_eq_false_iff_ne]; omega
 have hl'' : ((xs.length : Int) != (ys.length : Int)) = true := by rw [bne_iff_ne]; omega
 have HE := Lib.hid (show decide (xs = ys) = false from decide_eq_false fun e => hl (by rw [e]))
 obtain ⟨A, c, rfl, _⟩ := hA.form
 obtain ⟨B, d, rfl, _⟩ := hB.form
 clear hl hA hB
 go_enter Tryz.func186, Tryz.ntmps186
 go_wp2_with fail
 go_ret
 exact ⟨by rw [HE.out]; rfl, Below.refl _ _⟩

theorem equalN0_any (A B : Option Addr) (n c d : Nat) (F : Value) (w : World) (hn : n ≤ 16777216) :
  Calls Tryz.prog 187 #[.slice A n c, .slice B 0 d, F] w fun e w' => e = .returned (.bool (decide (n = 0))) ∧ Below w.heap.size w w' := by
 by_cases h : n = 0
 ·subst h
  go_enter Tryz.func187, Tryz.ntmps187
  go_wp2_with fail
  go_loop [17] (fun i => i = .int .i64 0) (fun _ => 0)
  case atStart => exact rfl
  obtain rfl := hrel
  go_wp2_with fail
  go_ret
  exact ⟨by simp, Below.refl _ _⟩
 have hl' : ((n : Int) == 0) = false := by rw [beq_eq_false_iff_ne]; omega
 have hl'' : ((n : Int) != 0) = true := by rw [bne_iff_ne]; omega
 have HE := Lib.hid (show decide (n = 0) = false from decide_eq_false h)
 clear h
 go_enter Tryz.func187, Tryz.ntmps187
 go_wp2_with fail
 go_ret
 exact ⟨by rw [HE.out]; rfl, Below.refl _ _⟩

theorem sameBigraphs_any (g h : Gr) (nv sv ov iv nv2 sv2 ov2 iv2 : Value) (w : World) (hs : SmallG g) (hs2 : SmallG h) (hnil : h.nodes = []) (hG : RGr w nv sv ov iv g) (hH : RGr w nv2 sv2 ov2 iv2 h) :
  Calls Tryz.prog 106 #[.agg #[.int .i64 g.roots, nv, sv, .int .i64 g.edges, ov, iv], .agg #[.int .i64 h.roots, nv2, sv2, .int .i64 h.edges, ov2, iv2]] w fun e w' => e = .returned (.bool (eqI g h)) ∧ Below w.heap.size w w' := by
 have HG := Lib.hid (show ∀ W, Below w.heap.size w W → RGr W nv sv ov iv g from fun W hb => hG.below hb)
 have HH := Lib.hid (show ∀ W, Below w.heap.size w W → RGr W nv2 sv2 ov2 iv2 h from fun W hb => hH.below hb)
 have n1 := hs.nodes
 have n2 := hs.sites
 have n3 := hs.outer
 have n4 := hs.inner
 have m1 := hs2.nodes
 have m2 := hs2.sites
 have m3 := hs2.outer
 have m4 := hs2.inner
 have hn0 : h.nodes.length = 0 := by rw [hnil]; rfl
 have HNN := Lib.hid (show decide (g.nodes.length = 0) = decide (g.nodes = []) from by rw [decide_eq_decide, List.length_eq_zero_iff])
 have HPT := Lib.hid (show eqI g h = ((g.roots == h.roots) && (g.edges == h.edges) && decide (g.sites = h.sites) && decide (g.outer = h.outer) && decide (g.inner = h.inner) && decide (g.nodes = [])) from rfl)
 obtain ⟨AN, cN, AS, cS, AO, cO, AI, cI, rfl, rfl, rfl, rfl⟩ := hG.form
 obtain ⟨AN2, cN2, AS2, cS2, AO2, cO2, AI2, cI2, rfl, rfl, rfl, rfl⟩ := hH.form
 rw [hn0] at HH ⊢
 obtain ⟨w0, hw0, hb0, hsz0, bx0, by0⟩ := laid2 w (.cells #[.int .i64 g.roots, .slice AN g.nodes.length cN, .slice AS g.sites.length cS, .int .i64 g.edges, .slice AO g.outer.length cO, .slice AI g.inner.length cI] 31) (.cells #[.int .i64 h.roots, .slice AN2 0 cN2, .slice AS2 h.sites.length cS2, .int .i64 h.edges, .slice AO2 h.outer.length cO2, .slice AI2 h.inner.length cI2] 31)
 have HX := Lib.hid (keepB bx0)
 have HY := Lib.hid (keepB by0)
 have HB0 := Lib.hid hb0
 have HW0 := Lib.hid hw0
 obtain ⟨x0, x1, x2, x3, x4, x5⟩ := row6 bx0
 obtain ⟨y0, y1, y2, y3, y4, y5⟩ := row6 by0
 rw [hw0] at x0 x1 x2 x3 x4 x5 y0 y1 y2 y3 y4 y5
 clear hs hs2 hG hH hb0 bx0 by0 hw0 hnil
 cases c0 : (g.roots == h.roots)
 ·have HE := Lib.hid (show eqI g h = false from by rw [HPT.out, c0]; first | done | rfl)
  go_enter Tryz.func106, Tryz.ntmps106
  go_wp2_with fail
  rw [← HW0.out]
  go_ret
  exact ⟨by rw [HE.out]; rfl, HB0.out⟩
 cases c1 : (g.edges == h.edges)
 ·have HE := Lib.hid (show eqI g h = false from by rw [HPT.out, c0, c1]; first | done | rfl)
  go_enter Tryz.func106, Tryz.ntmps106
  go_wp2_with fail
  rw [← HW0.out]
  go_ret
  exact ⟨by rw [HE.out]; rfl, HB0.out⟩
 cases c2 : (decide (g.sites = h.sites))
 ·have HE := Lib.hid (show eqI g h = false from by rw [HPT.out, c0, c1, c2]; first | done | rfl)
  have HC2 := Lib.hid (show Calls Tryz.prog 185 _ w0 _ from equalI_any AS AS2 cS cS2 g.sites h.sites w0 (by omega) (by omega) (by obtain ⟨A', c', e, hc⟩ := (HG.out w0 HB0.out).s; cases e; exact hc) (by obtain ⟨A', c', e, hc⟩ := (HH.out w0 HB0.out).s; cases e; exact hc))
  rw [show sameI g.sites h.sites = decide (g.sites = h.sites) from rfl, c2] at HC2
  go_enter Tryz.func106, Tryz.ntmps106
  go_wp2_with fail
  rw [← HW0.out]
  (with_reducible refine HC2.out.mono ?_)
  rintro e w1 ⟨rfl, hb⟩
  have HW1 := Lib.hid (hb)
  have HZ1 := Lib.hid (HB0.out.trans (HW1.out.mono HB0.out.size))
  clear hb x0 x1 x2 x3 x4 x5 y0 y1 y2 y3 y4 y5
  have bxr := HX.out w1 HW1.out
  have byr := HY.out w1 HW1.out
  obtain ⟨x0, x1, x2, x3, x4, x5⟩ := row6 bxr
  obtain ⟨y0, y1, y2, y3, y4, y5⟩ := row6 byr
  clear bxr byr
  go_wp2_with fail
  go_ret
  exact ⟨by rw [HE.out]; rfl, HZ1.out⟩
 cases c3 : (decide (g.outer = h.outer))
 ·have HE := Lib.hid (show eqI g h = false from by rw [HPT.out, c0, c1, c2, c3]; first | done | rfl)
  have HC2 := Lib.hid (show Calls Tryz.prog 185 _ w0 _ from equalI_any AS AS2 cS cS2 g.sites h.sites w0 (by omega) (by omega) (by obtain ⟨A', c', e, hc⟩ := (HG.out w0 HB0.out).s; cases e; exact hc) (by obtain ⟨A', c', e, hc⟩ := (HH.out w0 HB0.out).s; cases e; exact hc))
  rw [show sameI g.sites h.sites = decide (g.sites = h.sites) from rfl, c2] at HC2
  go_enter Tryz.func106, Tryz.ntmps106
  go_wp2_with fail
  rw [← HW0.out]
  (with_reducible refine HC2.out.mono ?_)
  rintro e w1 ⟨rfl, hb⟩
  have HW1 := Lib.hid (hb)
  have HZ1 := Lib.hid (HB0.out.trans (HW1.out.mono HB0.out.size))
  clear hb x0 x1 x2 x3 x4 x5 y0 y1 y2 y3 y4 y5
  have bxr := HX.out w1 HW1.out
  have byr := HY.out w1 HW1.out
  obtain ⟨x0, x1, x2, x3, x4, x5⟩ := row6 bxr
  obtain ⟨y0, y1, y2, y3, y4, y5⟩ := row6 byr
  clear bxr byr
  have HC3 := Lib.hid (equalSG_any AO AO2 cO cO2 g.outer h.outer w1 (by omega) (by omega) (by obtain ⟨A', c', e, hc⟩ := (HG.out w1 HZ1.out).o; cases e; exact hc) (by obtain ⟨A', c', e, hc⟩ := (HH.out w1 HZ1.out).o; cases e; exact hc))
  rw [c3] at HC3
  go_wp2_with fail
  (with_reducible refine HC3.out.mono ?_)
  rintro e w2 ⟨rfl, hb⟩
  have HW2 := Lib.hid (HW1.out.trans (hb.mono HW1.out.size))
  have HZ2 := Lib.hid (HB0.out.trans (HW2.out.mono HB0.out.size))
  clear hb x0 x1 x2 x3 x4 x5 y0 y1 y2 y3 y4 y5
  have bxr := HX.out w2 HW2.out
  have byr := HY.out w2 HW2.out
  obtain ⟨x0, x1, x2, x3, x4, x5⟩ := row6 bxr
  obtain ⟨y0, y1, y2, y3, y4, y5⟩ := row6 byr
  clear bxr byr
  go_wp2_with fail
  go_ret
  exact ⟨by rw [HE.out]; rfl, HZ2.out⟩
 cases c4 : (decide (g.inner = h.inner))
 ·have HE := Lib.hid (show eqI g h = false from by rw [HPT.out, c0, c1, c2, c3, c4]; first | done | rfl)
  have HC2 := Lib.hid (show Calls Tryz.prog 185 _ w0 _ from equalI_any AS AS2 cS cS2 g.sites h.sites w0 (by omega) (by omega) (by obtain ⟨A', c', e, hc⟩ := (HG.out w0 HB0.out).s; cases e; exact hc) (by obtain ⟨A', c', e, hc⟩ := (HH.out w0 HB0.out).s; cases e; exact hc))
  rw [show sameI g.sites h.sites = decide (g.sites = h.sites) from rfl, c2] at HC2
  go_enter Tryz.func106, Tryz.ntmps106
  go_wp2_with fail
  rw [← HW0.out]
  (with_reducible refine HC2.out.mono ?_)
  rintro e w1 ⟨rfl, hb⟩
  have HW1 := Lib.hid (hb)
  have HZ1 := Lib.hid (HB0.out.trans (HW1.out.mono HB0.out.size))
  clear hb x0 x1 x2 x3 x4 x5 y0 y1 y2 y3 y4 y5
  have bxr := HX.out w1 HW1.out
  have byr := HY.out w1 HW1.out
  obtain ⟨x0, x1, x2, x3, x4, x5⟩ := row6 bxr
  obtain ⟨y0, y1, y2, y3, y4, y5⟩ := row6 byr
  clear bxr byr
  have HC3 := Lib.hid (equalSG_any AO AO2 cO cO2 g.outer h.outer w1 (by omega) (by omega) (by obtain ⟨A', c', e, hc⟩ := (HG.out w1 HZ1.out).o; cases e; exact hc) (by obtain ⟨A', c', e, hc⟩ := (HH.out w1 HZ1.out).o; cases e; exact hc))
  rw [c3] at HC3
  go_wp2_with fail
  (with_reducible refine HC3.out.mono ?_)
  rintro e w2 ⟨rfl, hb⟩
  have HW2 := Lib.hid (HW1.out.trans (hb.mono HW1.out.size))
  have HZ2 := Lib.hid (HB0.out.trans (HW2.out.mono HB0.out.size))
  clear hb x0 x1 x2 x3 x4 x5 y0 y1 y2 y3 y4 y5
  have bxr := HX.out w2 HW2.out
  have byr := HY.out w2 HW2.out
  obtain ⟨x0, x1, x2, x3, x4, x5⟩ := row6 bxr
  obtain ⟨y0, y1, y2, y3, y4, y5⟩ := row6 byr
  clear bxr byr
  have HC4 := Lib.hid (equalWG_any _ _ g.inner h.inner w2 (by omega) (by omega) (HG.out w2 HZ2.out).i (HH.out w2 HZ2.out).i)
  rw [c4] at HC4
  go_wp2_with fail
  (with_reducible refine HC4.out.mono ?_)
  rintro e w3 ⟨rfl, hb⟩
  have HW3 := Lib.hid (HW2.out.trans (hb.mono HW2.out.size))
  have HZ3 := Lib.hid (HB0.out.trans (HW3.out.mono HB0.out.size))
  clear hb x0 x1 x2 x3 x4 x5 y0 y1 y2 y3 y4 y5
  have bxr := HX.out w3 HW3.out
  have byr := HY.out w3 HW3.out
  obtain ⟨x0, x1, x2, x3, x4, x5⟩ := row6 bxr
  obtain ⟨y0, y1, y2, y3, y4, y5⟩ := row6 byr
  clear bxr byr
  go_wp2_with fail
  go_ret
  exact ⟨by rw [HE.out]; rfl, HZ3.out⟩
 cases c5 : (decide (g.nodes.length = 0))
 ·have HE := Lib.hid (show eqI g h = false from by rw [HPT.out, ← HNN.out, c0, c1, c2, c3, c4, c5]; first | done | rfl)
  have HC2 := Lib.hid (show Calls Tryz.prog 185 _ w0 _ from equalI_any AS AS2 cS cS2 g.sites h.sites w0 (by omega) (by omega) (by obtain ⟨A', c', e, hc⟩ := (HG.out w0 HB0.out).s; cases e; exact hc) (by obtain ⟨A', c', e, hc⟩ := (HH.out w0 HB0.out).s; cases e; exact hc))
  rw [show sameI g.sites h.sites = decide (g.sites = h.sites) from rfl, c2] at HC2
  go_enter Tryz.func106, Tryz.ntmps106
  go_wp2_with fail
  rw [← HW0.out]
  (with_reducible refine HC2.out.mono ?_)
  rintro e w1 ⟨rfl, hb⟩
  have HW1 := Lib.hid (hb)
  have HZ1 := Lib.hid (HB0.out.trans (HW1.out.mono HB0.out.size))
  clear hb x0 x1 x2 x3 x4 x5 y0 y1 y2 y3 y4 y5
  have bxr := HX.out w1 HW1.out
  have byr := HY.out w1 HW1.out
  obtain ⟨x0, x1, x2, x3, x4, x5⟩ := row6 bxr
  obtain ⟨y0, y1, y2, y3, y4, y5⟩ := row6 byr
  clear bxr byr
  have HC3 := Lib.hid (equalSG_any AO AO2 cO cO2 g.outer h.outer w1 (by omega) (by omega) (by obtain ⟨A', c', e, hc⟩ := (HG.out w1 HZ1.out).o; cases e; exact hc) (by obtain ⟨A', c', e, hc⟩ := (HH.out w1 HZ1.out).o; cases e; exact hc))
  rw [c3] at HC3
  go_wp2_with fail
  (with_reducible refine HC3.out.mono ?_)
  rintro e w2 ⟨rfl, hb⟩
  have HW2 := Lib.hid (HW1.out.trans (hb.mono HW1.out.size))
  have HZ2 := Lib.hid (HB0.out.trans (HW2.out.mono HB0.out.size))
  clear hb x0 x1 x2 x3 x4 x5 y0 y1 y2 y3 y4 y5
  have bxr := HX.out w2 HW2.out
  have byr := HY.out w2 HW2.out
  obtain ⟨x0, x1, x2, x3, x4, x5⟩ := row6 bxr
  obtain ⟨y0, y1, y2, y3, y4, y5⟩ := row6 byr
  clear bxr byr
  have HC4 := Lib.hid (equalWG_any _ _ g.inner h.inner w2 (by omega) (by omega) (HG.out w2 HZ2.out).i (HH.out w2 HZ2.out).i)
  rw [c4] at HC4
  go_wp2_with fail
  (with_reducible refine HC4.out.mono ?_)
  rintro e w3 ⟨rfl, hb⟩
  have HW3 := Lib.hid (HW2.out.trans (hb.mono HW2.out.size))
  have HZ3 := Lib.hid (HB0.out.trans (HW3.out.mono HB0.out.size))
  clear hb x0 x1 x2 x3 x4 x5 y0 y1 y2 y3 y4 y5
  have bxr := HX.out w3 HW3.out
  have byr := HY.out w3 HW3.out
  obtain ⟨x0, x1, x2, x3, x4, x5⟩ := row6 bxr
  obtain ⟨y0, y1, y2, y3, y4, y5⟩ := row6 byr
  clear bxr byr
  have HC5 := Lib.hid (equalN0_any AN AN2 g.nodes.length cN cN2 (.func (.func 188) #[] #[]) w3 (by omega))
  rw [c5] at HC5
  go_wp2_with fail
  (with_reducible refine HC5.out.mono ?_)
  rintro e w4 ⟨rfl, hb⟩
  have HW4 := Lib.hid (HW3.out.trans (hb.mono HW3.out.size))
  have HZ4 := Lib.hid (HB0.out.trans (HW4.out.mono HB0.out.size))
  clear hb x0 x1 x2 x3 x4 x5 y0 y1 y2 y3 y4 y5
  have bxr := HX.out w4 HW4.out
  have byr := HY.out w4 HW4.out
  obtain ⟨x0, x1, x2, x3, x4, x5⟩ := row6 bxr
  obtain ⟨y0, y1, y2, y3, y4, y5⟩ := row6 byr
  clear bxr byr
  go_wp2_with fail
  go_ret
  exact ⟨by rw [HE.out]; rfl, HZ4.out⟩
 have HE := Lib.hid (show eqI g h = true from by rw [HPT.out, ← HNN.out, c0, c1, c2, c3, c4, c5]; first | done | rfl)
 have HC2 := Lib.hid (show Calls Tryz.prog 185 _ w0 _ from equalI_any AS AS2 cS cS2 g.sites h.sites w0 (by omega) (by omega) (by obtain ⟨A', c', e, hc⟩ := (HG.out w0 HB0.out).s; cases e; exact hc) (by obtain ⟨A', c', e, hc⟩ := (HH.out w0 HB0.out).s; cases e; exact hc))
 rw [show sameI g.sites h.sites = decide (g.sites = h.sites) from rfl, c2] at HC2
 go_enter Tryz.func106, Tryz.ntmps106
 go_wp2_with fail
 rw [← HW0.out]
 (with_reducible refine HC2.out.mono ?_)
 rintro e w1 ⟨rfl, hb⟩
 have HW1 := Lib.hid (hb)
 have HZ1 := Lib.hid (HB0.out.trans (HW1.out.mono HB0.out.size))
 clear hb x0 x1 x2 x3 x4 x5 y0 y1 y2 y3 y4 y5
 have bxr := HX.out w1 HW1.out
 have byr := HY.out w1 HW1.out
 obtain ⟨x0, x1, x2, x3, x4, x5⟩ := row6 bxr
 obtain ⟨y0, y1, y2, y3, y4, y5⟩ := row6 byr
 clear bxr byr
 have HC3 := Lib.hid (equalSG_any AO AO2 cO cO2 g.outer h.outer w1 (by omega) (by omega) (by obtain ⟨A', c', e, hc⟩ := (HG.out w1 HZ1.out).o; cases e; exact hc) (by obtain ⟨A', c', e, hc⟩ := (HH.out w1 HZ1.out).o; cases e; exact hc))
 rw [c3] at HC3
 go_wp2_with fail
 (with_reducible refine HC3.out.mono ?_)
 rintro e w2 ⟨rfl, hb⟩
 have HW2 := Lib.hid (HW1.out.trans (hb.mono HW1.out.size))
 have HZ2 := Lib.hid (HB0.out.trans (HW2.out.mono HB0.out.size))
 clear hb x0 x1 x2 x3 x4 x5 y0 y1 y2 y3 y4 y5
 have bxr := HX.out w2 HW2.out
 have byr := HY.out w2 HW2.out
 obtain ⟨x0, x1, x2, x3, x4, x5⟩ := row6 bxr
 obtain ⟨y0, y1, y2, y3, y4, y5⟩ := row6 byr
 clear bxr byr
 have HC4 := Lib.hid (equalWG_any _ _ g.inner h.inner w2 (by omega) (by omega) (HG.out w2 HZ2.out).i (HH.out w2 HZ2.out).i)
 rw [c4] at HC4
 go_wp2_with fail
 (with_reducible refine HC4.out.mono ?_)
 rintro e w3 ⟨rfl, hb⟩
 have HW3 := Lib.hid (HW2.out.trans (hb.mono HW2.out.size))
 have HZ3 := Lib.hid (HB0.out.trans (HW3.out.mono HB0.out.size))
 clear hb x0 x1 x2 x3 x4 x5 y0 y1 y2 y3 y4 y5
 have bxr := HX.out w3 HW3.out
 have byr := HY.out w3 HW3.out
 obtain ⟨x0, x1, x2, x3, x4, x5⟩ := row6 bxr
 obtain ⟨y0, y1, y2, y3, y4, y5⟩ := row6 byr
 clear bxr byr
 have HC5 := Lib.hid (equalN0_any AN AN2 g.nodes.length cN cN2 (.func (.func 188) #[] #[]) w3 (by omega))
 rw [c5] at HC5
 go_wp2_with fail
 (with_reducible refine HC5.out.mono ?_)
 rintro e w4 ⟨rfl, hb⟩
 have HW4 := Lib.hid (HW3.out.trans (hb.mono HW3.out.size))
 have HZ4 := Lib.hid (HB0.out.trans (HW4.out.mono HB0.out.size))
 clear hb x0 x1 x2 x3 x4 x5 y0 y1 y2 y3 y4 y5
 have bxr := HX.out w4 HW4.out
 have byr := HY.out w4 HW4.out
 obtain ⟨x0, x1, x2, x3, x4, x5⟩ := row6 bxr
 obtain ⟨y0, y1, y2, y3, y4, y5⟩ := row6 byr
 clear bxr byr
 go_wp2_with fail
 go_ret
 exact ⟨by rw [HE.out]; rfl, HZ4.out⟩

end Go.Proofs.YtijkdpdmclkmlaaGreatDoor
