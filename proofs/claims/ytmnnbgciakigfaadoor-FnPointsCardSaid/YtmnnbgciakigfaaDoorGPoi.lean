/- PointsOf: both packages walked. -/
import Derived.Test.YtmnnbgciakigfaaDoorProg
import Derived.Test.YtmnnbgciakigfaaDoorGIdle
import Derived.Test.YtmnnbgciakigfaaDoorRegInv
set_option linter.unusedVariables false
namespace Go.Proofs.YtmnnbgciakigfaaDoor
open Go.RowKit

def poiB (sig : List Ct) (g : Gr) (link : Int) : Bool := goodG sig g && linkB g link
def ptsR (sig : List Ct) (g : Gr) (link : Int) : List I2 := if poiB sig g link then ptsG g link else []
def endsR (sig : List Ct) (g : Gr) (link : Int) : List ByteArray := if poiB sig g link then endsG g link else []

/-- The rows of the two lists, while the region is under way. -/
structure PTF (g : Gr) (link : Int) (w1 : World) (r q : Value) (b2 b5 : Bool) (W : World) : Prop where
  bel : Below w1.heap.size w1 W
  r1 : b2 = true → W.ownsRow w1.heap.size 45 2 r (ptsG g link).length ((ptsG g link).flatMap pr2)
  r2 : b5 = true → W.ownsRow w1.heap.size 9 1 q (endsG g link).length (strs (endsG g link))
theorem PTF.start {g : Gr} {link : Int} {w1 : World} {r q : Value} : PTF g link w1 r q false false w1.drew := ⟨(Below.refl _ _).drew, fun h => (nomatch h), fun h => (nomatch h)⟩
theorem PTF.one {g : Gr} {link : Int} {w1 W W2 : World} {r q r2 : Value} {b5 : Bool} (h : PTF g link w1 r q false b5 W) (hb : Below W.heap.size W W2) (ho : W2.ownsRow W.heap.size 45 2 r2 (ptsG g link).length ((ptsG g link).flatMap pr2)) : PTF g link w1 r2 q true b5 W2 :=
  ⟨h.bel.trans (hb.mono h.bel.size), fun _ => owns_mono ho h.bel.size, fun e => owns_below (h.r2 e) hb (Nat.le_refl _)⟩
theorem PTF.two {g : Gr} {link : Int} {w1 W W2 : World} {r q q2 : Value} {b2 : Bool} (h : PTF g link w1 r q b2 false W) (hb : Below W.heap.size W W2) (ho : W2.ownsRow W.heap.size 9 1 q2 (endsG g link).length (strs (endsG g link))) : PTF g link w1 r q2 b2 true W2 :=
  ⟨h.bel.trans (hb.mono h.bel.size), fun e => owns_below (h.r1 e) hb (Nat.le_refl _), fun _ => owns_mono ho h.bel.size⟩

set_option maxRecDepth 100000 in
set_option maxHeartbeats 4000000 in
theorem implPointsOf_any (sig : List Ct) (g : Gr) (nv sv ov iv gv : Value) (link : Int) (w : World) (hs : SmallG g) (hz : SmallS sig) (hcap : CapOk gv) (hS : RSl RCt 3 w gv sig) (hG : RGr w nv sv ov iv g) :
    Calls Tryd.prog 14 #[gv, .agg #[.int .i64 g.roots, nv, sv, .int .i64 g.edges, ov, iv], .int .i64 link] w fun e w' => ∃ r q, e = .returned (.tuple #[r, q, .bool (poiB sig g link)]) ∧ w'.ownsRow w.heap.size 45 2 r (ptsR sig g link).length ((ptsR sig g link).flatMap pr2) ∧ w'.ownsRow w.heap.size 9 1 q (endsR sig g link).length (strs (endsR sig g link)) ∧ Below w.heap.size w w' := by
  have HG := Lib.hid (show ∀ W, Below w.heap.size w W → RGr W nv sv ov iv g from fun W hb => hG.below hb)
  have HS := Lib.hid (show ∀ W, Below w.heap.size w W → RSl RCt 3 W gv sig from fun W hb => hS.below RCt_keep hb)
  have HSM := Lib.hid hs
  have HRT := Lib.hid (show poiB sig g link = true → ptsR sig g link = ptsG g link ∧ endsR sig g link = endsG g link from fun h => by unfold ptsR endsR; rw [h]; exact ⟨rfl, rfl⟩)
  have HRF := Lib.hid (show poiB sig g link = false → ptsR sig g link = [] ∧ endsR sig g link = [] from fun h => by unfold ptsR endsR; rw [h]; exact ⟨rfl, rfl⟩)
  have HPB := Lib.hid (show poiB sig g link = (goodG sig g && linkB g link) from rfl)
  obtain ⟨AN, cN, AS, cS, AO, cO, AI, cI, rfl, rfl, rfl, rfl⟩ := hG.form
  obtain ⟨AG, cG, rfl, _⟩ := hS.form
  obtain ⟨w0, hw0⟩ : ∃ w0, w0 = w.alloc (.cells #[.int .i64 g.roots, .slice AN g.nodes.length cN, .slice AS g.sites.length cS, .int .i64 g.edges, .slice AO g.outer.length cO, .slice AI g.inner.length cI] 30) := ⟨_, rfl⟩
  have hb0 : Below w.heap.size w w0 := by rw [hw0]; exact (Below.refl _ _).alloc (Nat.le_refl _) _
  have bx0 : w0.heap[w.heap.size]? = some (.cells #[.int .i64 g.roots, .slice AN g.nodes.length cN, .slice AS g.sites.length cS, .int .i64 g.edges, .slice AO g.outer.length cO, .slice AI g.inner.length cI] 30) := by rw [hw0]; exact heap_alloc_new _ _
  have hsz0 : w0.heap.size = w.heap.size + 1 := by rw [hw0]; simp
  have HX := Lib.hid (show ∀ W, Below w0.heap.size w0 W → W.heap[w.heap.size]? = some (.cells #[.int .i64 g.roots, .slice AN g.nodes.length cN, .slice AS g.sites.length cS, .int .i64 g.edges, .slice AO g.outer.length cO, .slice AI g.inner.length cI] 30) from fun W hW => (hW.block _ (by omega)).trans bx0)
  have HB0 := Lib.hid hb0
  have HW0 := Lib.hid hw0
  have x0 := cell_of_row _ _ 0 _ _ _ bx0
  have x1 := cell_of_row _ _ 1 _ _ _ bx0
  have x2 := cell_of_row _ _ 2 _ _ _ bx0
  have x3 := cell_of_row _ _ 3 _ _ _ bx0
  have x4 := cell_of_row _ _ 4 _ _ _ bx0
  have x5 := cell_of_row _ _ 5 _ _ _ bx0
  rw [hw0] at x0 x1 x2 x3 x4 x5
  have H1 := Lib.hid (isBigraph_any sig g _ _ _ _ _ w0 hs hz hcap (HS.out w0 hb0) (HG.out w0 hb0))
  have H2 := Lib.hid (fun W hb => isLink_any g _ _ _ _ link W hs (HG.out W hb))
  clear hs hG hS hz hcap hb0 bx0 hw0
  cases hg : goodG sig g
  · have HP := Lib.hid (show poiB sig g link = false from by rw [HPB.out, hg]; rfl)
    rw [hg] at H1
    go_enter Tryd.func14, Tryd.ntmps14
    go_wp2_with fail
    rw [← HW0.out]
    refine H1.out.mono ?_
    rintro e w1 ⟨rfl, hb1⟩
    have HZ := Lib.hid (HB0.out.trans (hb1.mono HB0.out.size))
    clear x0 x1 x2 x3 x4 x5 hb1
    go_wp2_with fail
    go_ret3
    exact ⟨_, _, by rw [HP.out]; rfl, by rw [(HRF.out HP.out).1]; exact none_row, by rw [(HRF.out HP.out).2]; exact none_row, HZ.out⟩
  · rw [hg] at H1
    go_enter Tryd.func14, Tryd.ntmps14
    go_wp2_with fail
    rw [← HW0.out]
    refine H1.out.mono ?_
    rintro e w0' ⟨rfl, hb1⟩
    have HB1 := Lib.hid hb1
    have HZ1 := Lib.hid (HB0.out.trans (hb1.mono HB0.out.size))
    have bx1 := HX.out w0' hb1
    clear x0 x1 x2 x3 x4 x5 hb1
    have x0 := cell_of_row _ _ 0 _ _ _ bx1
    have x1 := cell_of_row _ _ 1 _ _ _ bx1
    have x2 := cell_of_row _ _ 2 _ _ _ bx1
    have x3 := cell_of_row _ _ 3 _ _ _ bx1
    have x4 := cell_of_row _ _ 4 _ _ _ bx1
    have x5 := cell_of_row _ _ 5 _ _ _ bx1
    have HL := Lib.hid (H2.out w0' HZ1.out)
    clear bx1
    cases hl : linkB g link
    · have HP := Lib.hid (show poiB sig g link = false from by rw [HPB.out, hl]; simp)
      rw [hl] at HL
      go_wp2_with fail
      refine HL.out.mono ?_
      rintro e w1 ⟨rfl, hb1⟩
      have HZ := Lib.hid (HZ1.out.trans (hb1.mono HZ1.out.size))
      clear x0 x1 x2 x3 x4 x5 hb1
      go_wp2_with fail
      go_ret3
      exact ⟨_, _, by rw [HP.out]; rfl, by rw [(HRF.out HP.out).1]; exact none_row, by rw [(HRF.out HP.out).2]; exact none_row, HZ.out⟩
    · have HP := Lib.hid (show poiB sig g link = true from by rw [HPB.out, hg, hl]; rfl)
      rw [hl] at HL
      go_wp2_with fail
      refine HL.out.mono ?_
      rintro e w1 ⟨rfl, hb1⟩
      have HB2 := Lib.hid (HB1.out.trans (hb1.mono HB1.out.size))
      have HZ := Lib.hid (HZ1.out.trans (hb1.mono HZ1.out.size))
      have bx1 := HX.out w1 HB2.out
      clear x0 x1 x2 x3 x4 x5 hb1
      have x0 := cell_of_row _ _ 0 _ _ _ bx1
      have x1 := cell_of_row _ _ 1 _ _ _ bx1
      have x2 := cell_of_row _ _ 2 _ _ _ bx1
      have x3 := cell_of_row _ _ 3 _ _ _ bx1
      have x4 := cell_of_row _ _ 4 _ _ _ bx1
      have x5 := cell_of_row _ _ 5 _ _ _ bx1
      have H3 := Lib.hid (pointsOf_any g _ _ _ _ link w1 HSM.out (HG.out w1 HZ.out))
      clear bx1
      go_wp2_with fail
      refine H3.out.mono ?_
      rintro e w2 ⟨r, q, rfl, ho1, ho2, hb2⟩
      have HO1 := Lib.hid (owns_mono ho1 HZ.out.size)
      have HO2 := Lib.hid (owns_mono ho2 HZ.out.size)
      have HZ2 := Lib.hid (HZ.out.trans (hb2.mono HZ.out.size))
      clear x0 x1 x2 x3 x4 x5 ho1 ho2 hb2
      go_wp2_with fail
      go_ret3
      exact ⟨_, _, by rw [HP.out]; rfl, by rw [(HRT.out HP.out).1]; exact HO1.out, by rw [(HRT.out HP.out).2]; exact HO2.out, HZ2.out⟩

set_option maxRecDepth 100000 in
set_option maxHeartbeats 4000000 in
theorem specPointsOf_any (sig : List Ct) (g : Gr) (nv sv ov iv gv : Value) (link : Int) (w : World) (hs : SmallG g) (hz : SmallS sig) (hS : RSl RCt 3 w gv sig) (hG : RGr w nv sv ov iv g) :
    Calls Tryd.prog 15 #[gv, .agg #[.int .i64 g.roots, nv, sv, .int .i64 g.edges, ov, iv], .int .i64 link] w fun e w' => ∃ r q, e = .returned (.tuple #[r, q, .bool (poiB sig g link)]) ∧ w'.ownsRow w.heap.size 45 2 r (ptsR sig g link).length ((ptsR sig g link).flatMap pr2) ∧ w'.ownsRow w.heap.size 9 1 q (endsR sig g link).length (strs (endsR sig g link)) ∧ Below w.heap.size w w' := by
  have HG := Lib.hid (show ∀ W, Below w.heap.size w W → RGr W nv sv ov iv g from fun W hb => hG.below hb)
  have HS := Lib.hid (show ∀ W, Below w.heap.size w W → RSl RCt 3 W gv sig from fun W hb => hS.below RCt_keep hb)
  have HSM := Lib.hid hs
  have HRT := Lib.hid (show poiB sig g link = true → ptsR sig g link = ptsG g link ∧ endsR sig g link = endsG g link from fun h => by unfold ptsR endsR; rw [h]; exact ⟨rfl, rfl⟩)
  have HRF := Lib.hid (show poiB sig g link = false → ptsR sig g link = [] ∧ endsR sig g link = [] from fun h => by unfold ptsR endsR; rw [h]; exact ⟨rfl, rfl⟩)
  have HPB := Lib.hid (show poiB sig g link = (goodG sig g && linkB g link) from rfl)
  obtain ⟨AN, cN, AS, cS, AO, cO, AI, cI, rfl, rfl, rfl, rfl⟩ := hG.form
  obtain ⟨AG, cG, rfl, _⟩ := hS.form
  obtain ⟨w0, hw0⟩ : ∃ w0, w0 = w.alloc (.cells #[.int .i64 g.roots, .slice AN g.nodes.length cN, .slice AS g.sites.length cS, .int .i64 g.edges, .slice AO g.outer.length cO, .slice AI g.inner.length cI] 30) := ⟨_, rfl⟩
  have hb0 : Below w.heap.size w w0 := by rw [hw0]; exact (Below.refl _ _).alloc (Nat.le_refl _) _
  have bx0 : w0.heap[w.heap.size]? = some (.cells #[.int .i64 g.roots, .slice AN g.nodes.length cN, .slice AS g.sites.length cS, .int .i64 g.edges, .slice AO g.outer.length cO, .slice AI g.inner.length cI] 30) := by rw [hw0]; exact heap_alloc_new _ _
  have hsz0 : w0.heap.size = w.heap.size + 1 := by rw [hw0]; simp
  have HX := Lib.hid (show ∀ W, Below w0.heap.size w0 W → W.heap[w.heap.size]? = some (.cells #[.int .i64 g.roots, .slice AN g.nodes.length cN, .slice AS g.sites.length cS, .int .i64 g.edges, .slice AO g.outer.length cO, .slice AI g.inner.length cI] 30) from fun W hW => (hW.block _ (by omega)).trans bx0)
  have HB0 := Lib.hid hb0
  have HW0 := Lib.hid hw0
  have x0 := cell_of_row _ _ 0 _ _ _ bx0
  have x1 := cell_of_row _ _ 1 _ _ _ bx0
  have x2 := cell_of_row _ _ 2 _ _ _ bx0
  have x3 := cell_of_row _ _ 3 _ _ _ bx0
  have x4 := cell_of_row _ _ 4 _ _ _ bx0
  have x5 := cell_of_row _ _ 5 _ _ _ bx0
  rw [hw0] at x0 x1 x2 x3 x4 x5
  have H1 := Lib.hid (l2Good_any sig g _ _ _ _ _ w0 hs hz (HS.out w0 hb0) (HG.out w0 hb0))
  have H2 := Lib.hid (fun W hb => l2Link_any g _ _ _ _ link W hs (HG.out W hb))
  clear hs hG hS hz hb0 bx0 hw0
  cases hg : goodG sig g
  · have HP := Lib.hid (show poiB sig g link = false from by rw [HPB.out, hg]; rfl)
    rw [hg] at H1
    go_enter Tryd.func15, Tryd.ntmps15
    go_wp2_with fail
    rw [← HW0.out]
    refine H1.out.mono ?_
    rintro e w1 ⟨rfl, hb1⟩
    have HZ := Lib.hid (HB0.out.trans (hb1.mono HB0.out.size))
    clear x0 x1 x2 x3 x4 x5 hb1
    go_wp2_with fail
    go_ret3
    exact ⟨_, _, by rw [HP.out]; rfl, by rw [(HRF.out HP.out).1]; exact by have h := World.ownsRow_made (e := 45) (size := 2) w1 #[] 0 (Nat.le_refl _) (Nat.zero_le _) rfl; exact (owns_mono h HZ.out.size).alloc _, by rw [(HRF.out HP.out).2]; exact by have h := made_rowG (w1.alloc (.cells #[] 45)) 9; rw [World.size_alloc] at h; exact owns_mono h (by have := HZ.out.size; omega), (HZ.out.alloc HZ.out.size _).alloc (by have := HZ.out.size; simp; omega) _⟩
  · rw [hg] at H1
    go_enter Tryd.func15, Tryd.ntmps15
    go_wp2_with fail
    rw [← HW0.out]
    refine H1.out.mono ?_
    rintro e w0' ⟨rfl, hb1⟩
    have HB1 := Lib.hid hb1
    have HZ1 := Lib.hid (HB0.out.trans (hb1.mono HB0.out.size))
    have bx1 := HX.out w0' hb1
    clear x0 x1 x2 x3 x4 x5 hb1
    have x0 := cell_of_row _ _ 0 _ _ _ bx1
    have x1 := cell_of_row _ _ 1 _ _ _ bx1
    have x2 := cell_of_row _ _ 2 _ _ _ bx1
    have x3 := cell_of_row _ _ 3 _ _ _ bx1
    have x4 := cell_of_row _ _ 4 _ _ _ bx1
    have x5 := cell_of_row _ _ 5 _ _ _ bx1
    have HL := Lib.hid (H2.out w0' HZ1.out)
    clear bx1
    cases hl : linkB g link
    · have HP := Lib.hid (show poiB sig g link = false from by rw [HPB.out, hl]; simp)
      rw [hl] at HL
      go_wp2_with fail
      refine HL.out.mono ?_
      rintro e w1 ⟨rfl, hb1⟩
      have HZ := Lib.hid (HZ1.out.trans (hb1.mono HZ1.out.size))
      clear x0 x1 x2 x3 x4 x5 hb1
      go_wp2_with fail
      go_ret3
      exact ⟨_, _, by rw [HP.out]; rfl, by rw [(HRF.out HP.out).1]; exact by have h := World.ownsRow_made (e := 45) (size := 2) w1 #[] 0 (Nat.le_refl _) (Nat.zero_le _) rfl; exact (owns_mono h HZ.out.size).alloc _, by rw [(HRF.out HP.out).2]; exact by have h := made_rowG (w1.alloc (.cells #[] 45)) 9; rw [World.size_alloc] at h; exact owns_mono h (by have := HZ.out.size; omega), (HZ.out.alloc HZ.out.size _).alloc (by have := HZ.out.size; simp; omega) _⟩
    · have HP := Lib.hid (show poiB sig g link = true from by rw [HPB.out, hg, hl]; rfl)
      rw [hl] at HL
      go_wp2_with fail
      refine HL.out.mono ?_
      rintro e w1 ⟨rfl, hb1⟩
      have HB2 := Lib.hid (HB1.out.trans (hb1.mono HB1.out.size))
      have HZ := Lib.hid (HZ1.out.trans (hb1.mono HZ1.out.size))
      have bx1 := HX.out w1 HB2.out
      clear x0 x1 x2 x3 x4 x5 hb1
      have x0 := cell_of_row _ _ 0 _ _ _ bx1
      have x1 := cell_of_row _ _ 1 _ _ _ bx1
      have x2 := cell_of_row _ _ 2 _ _ _ bx1
      have x3 := cell_of_row _ _ 3 _ _ _ bx1
      have x4 := cell_of_row _ _ 4 _ _ _ bx1
      have x5 := cell_of_row _ _ 5 _ _ _ bx1
      clear bx1 x0 x1 x2 x3 x4 x5
      go_wp2_with fail
      refine wp_region_inv (by kernel_rfl) (fun L act W => ∃ (r z : Value), act = ⟨#[Value.slice AG sig.length cG, Value.agg #[Value.int IntKind.i64 g.roots, Value.slice AN g.nodes.length cN, Value.slice AS g.sites.length cS, Value.int IntKind.i64 g.edges, Value.slice AO g.outer.length cO, Value.slice AI g.inner.length cI], Value.int IntKind.i64 link, undef, Value.pointer (some ⟨w.heap.size, 0, none⟩), undef, bsel (L 6) (r) (Value.slice none 0 0), bsel (L 7) (z) (Value.slice none 0 0), bsel (L 8) (.bool true) (Value.bool false), Value.slice AG sig.length cG, Value.agg #[Value.int IntKind.i64 g.roots, Value.slice AN g.nodes.length cN, Value.slice AS g.sites.length cS, Value.int IntKind.i64 g.edges, Value.slice AO g.outer.length cO, Value.slice AI g.inner.length cI], Value.bool true, Value.bool false, Value.bool false, Value.agg #[Value.int IntKind.i64 g.roots, Value.slice AN g.nodes.length cN, Value.slice AS g.sites.length cS, Value.int IntKind.i64 g.edges, Value.slice AO g.outer.length cO, Value.slice AI g.inner.length cI], Value.int IntKind.i64 link, Value.bool true, Value.bool false, Value.bool false, undef, undef, bsel (L 0) (.agg #[.int .i64 g.roots, .slice AN g.nodes.length cN, .slice AS g.sites.length cS, .int .i64 g.edges, .slice AO g.outer.length cO, .slice AI g.inner.length cI]) (undef), bsel (L 1) (.int .i64 link) (undef), bsel (L 2) (r) (undef), bsel (L 3) (.agg #[.int .i64 g.roots, .slice AN g.nodes.length cN, .slice AS g.sites.length cS, .int .i64 g.edges, .slice AO g.outer.length cO, .slice AI g.inner.length cI]) (undef), bsel (L 4) (.int .i64 link) (undef), bsel (L 5) (z) (undef)], []⟩ ∧ (L 6 = true → L 2 = true) ∧ (L 7 = true → L 5 = true) ∧ PTF g link w1 r z (L 2) (L 5) W) ?h0 ?step ?fin
      case h0 => exact ⟨undef, undef, rfl, fun h => absurd h Bool.false_ne_true, fun h => absurd h Bool.false_ne_true, PTF.start⟩
      case step =>
        intro L act W q oo hJ hL ho hd K3 hK3
        obtain ⟨r, z, rfl, hI0, hI1, hF⟩ := hJ
        match q, ho with
        | 0, ho =>
          simp only [List.getElem?_toArray, List.getElem?_cons_zero, List.getElem?_cons_succ, Option.some.injEq] at ho
          subst ho
          simp [Region.binds] at hd
          have bxW := HX.out W (HB2.out.trans (hF.bel.mono HB2.out.size))
          have x0 := cell_of_row _ _ 0 _ _ _ bxW
          have x1 := cell_of_row _ _ 1 _ _ _ bxW
          have x2 := cell_of_row _ _ 2 _ _ _ bxW
          have x3 := cell_of_row _ _ 3 _ _ _ bxW
          have x4 := cell_of_row _ _ 4 _ _ _ bxW
          have x5 := cell_of_row _ _ 5 _ _ _ bxW
          clear bxW
          try simp only [hd, bsel_t]
          have HF := Lib.hid hF
          clear hF
          have HQI0 := Lib.hid hI0
          clear hI0
          have HQI1 := Lib.hid hI1
          clear hI1
          go_simp
          exact hK3 _ _ ⟨r, z, by simp [upd, bsel, hd], by simpa [upd] using HQI0.out, by simpa [upd] using HQI1.out, HF.out⟩
        | 1, ho =>
          simp only [List.getElem?_toArray, List.getElem?_cons_zero, List.getElem?_cons_succ, Option.some.injEq] at ho
          subst ho
          simp [Region.binds] at hd
          try simp only [hd, bsel_t]
          have HF := Lib.hid hF
          clear hF
          have HQI0 := Lib.hid hI0
          clear hI0
          have HQI1 := Lib.hid hI1
          clear hI1
          go_simp
          exact hK3 _ _ ⟨r, z, by simp [upd, bsel, hd], by simpa [upd] using HQI0.out, by simpa [upd] using HQI1.out, HF.out⟩
        | 2, ho =>
          simp only [List.getElem?_toArray, List.getElem?_cons_zero, List.getElem?_cons_succ, Option.some.injEq] at ho
          subst ho
          simp [Region.binds] at hd
          have hz0 : L 6 = false := by
            cases e : L 6
            · rfl
            · exact absurd (hI0 e) (by simp [hL])
          rw [hL] at hF
          simp only [hd, bsel_t]
          have HF := Lib.hid hF
          clear hF
          have HQI0 := Lib.hid hI0
          clear hI0
          have HQI1 := Lib.hid hI1
          clear hI1
          go_simp
          go_at_call 31
          refine (l2Ports_any g _ _ _ _ link W HSM.out (HG.out W (HZ.out.trans (HF.out.bel.mono HZ.out.size)))).mono ?_
          rintro e W' ⟨r', rfl, ho, hb⟩
          have HF := Lib.hid (HF.out.one hb ho)
          clear ho hb
          go_simp
          exact hK3 _ _ ⟨r', z, by simp [upd, bsel, hd, hz0], by simp [upd], by simpa [upd] using HQI1.out, by simpa [upd, hd] using HF.out⟩
        | 3, ho =>
          simp only [List.getElem?_toArray, List.getElem?_cons_zero, List.getElem?_cons_succ, Option.some.injEq] at ho
          subst ho
          simp [Region.binds] at hd
          have bxW := HX.out W (HB2.out.trans (hF.bel.mono HB2.out.size))
          have x0 := cell_of_row _ _ 0 _ _ _ bxW
          have x1 := cell_of_row _ _ 1 _ _ _ bxW
          have x2 := cell_of_row _ _ 2 _ _ _ bxW
          have x3 := cell_of_row _ _ 3 _ _ _ bxW
          have x4 := cell_of_row _ _ 4 _ _ _ bxW
          have x5 := cell_of_row _ _ 5 _ _ _ bxW
          clear bxW
          try simp only [hd, bsel_t]
          have HF := Lib.hid hF
          clear hF
          have HQI0 := Lib.hid hI0
          clear hI0
          have HQI1 := Lib.hid hI1
          clear hI1
          go_simp
          exact hK3 _ _ ⟨r, z, by simp [upd, bsel, hd], by simpa [upd] using HQI0.out, by simpa [upd] using HQI1.out, HF.out⟩
        | 4, ho =>
          simp only [List.getElem?_toArray, List.getElem?_cons_zero, List.getElem?_cons_succ, Option.some.injEq] at ho
          subst ho
          simp [Region.binds] at hd
          try simp only [hd, bsel_t]
          have HF := Lib.hid hF
          clear hF
          have HQI0 := Lib.hid hI0
          clear hI0
          have HQI1 := Lib.hid hI1
          clear hI1
          go_simp
          exact hK3 _ _ ⟨r, z, by simp [upd, bsel, hd], by simpa [upd] using HQI0.out, by simpa [upd] using HQI1.out, HF.out⟩
        | 5, ho =>
          simp only [List.getElem?_toArray, List.getElem?_cons_zero, List.getElem?_cons_succ, Option.some.injEq] at ho
          subst ho
          simp [Region.binds] at hd
          have hz1 : L 7 = false := by
            cases e : L 7
            · rfl
            · exact absurd (hI1 e) (by simp [hL])
          rw [hL] at hF
          simp only [hd, bsel_t]
          have HF := Lib.hid hF
          clear hF
          have HQI0 := Lib.hid hI0
          clear hI0
          have HQI1 := Lib.hid hI1
          clear hI1
          go_simp
          go_at_call 32
          refine (l2Ends_any g _ _ _ _ link W HSM.out (HG.out W (HZ.out.trans (HF.out.bel.mono HZ.out.size)))).mono ?_
          rintro e W' ⟨z', rfl, ho, hb⟩
          have HF := Lib.hid (HF.out.two hb ho)
          clear ho hb
          go_simp
          exact hK3 _ _ ⟨r, z', by simp [upd, bsel, hd, hz1], by simpa [upd] using HQI0.out, by simp [upd], by simpa [upd, hd] using HF.out⟩
        | 6, ho =>
          simp only [List.getElem?_toArray, List.getElem?_cons_zero, List.getElem?_cons_succ, Option.some.injEq] at ho
          subst ho
          simp [Region.binds] at hd
          try simp only [hd, bsel_t]
          have HF := Lib.hid hF
          clear hF
          have HQI0 := Lib.hid hI0
          clear hI0
          have HQI1 := Lib.hid hI1
          clear hI1
          go_simp
          exact hK3 _ _ ⟨r, z, by simp [upd, bsel, hd], by simp [upd, hd], by simpa [upd] using HQI1.out, HF.out⟩
        | 7, ho =>
          simp only [List.getElem?_toArray, List.getElem?_cons_zero, List.getElem?_cons_succ, Option.some.injEq] at ho
          subst ho
          simp [Region.binds] at hd
          try simp only [hd, bsel_t]
          have HF := Lib.hid hF
          clear hF
          have HQI0 := Lib.hid hI0
          clear hI0
          have HQI1 := Lib.hid hI1
          clear hI1
          go_simp
          exact hK3 _ _ ⟨r, z, by simp [upd, bsel, hd], by simpa [upd] using HQI0.out, by simp [upd, hd], HF.out⟩
        | 8, ho =>
          simp only [List.getElem?_toArray, List.getElem?_cons_zero, List.getElem?_cons_succ, Option.some.injEq] at ho
          subst ho
          simp [Region.binds] at hd
          try simp only [hd, bsel_t]
          have HF := Lib.hid hF
          clear hF
          have HQI0 := Lib.hid hI0
          clear hI0
          have HQI1 := Lib.hid hI1
          clear hI1
          go_simp
          exact hK3 _ _ ⟨r, z, by simp [upd, bsel, hd], by simpa [upd] using HQI0.out, by simpa [upd] using HQI1.out, HF.out⟩
        | q + 9, ho => simp at ho
      case fin =>
        intro L act W hJ hfin
        obtain ⟨r, z, rfl, hI0, hI1, hF⟩ := hJ
        have l0 : L 0 = true := by
          cases e : L 0
          · have x := hfin 0 _ rfl e
            simp [Region.binds] at x
          · rfl
        have l1 : L 1 = true := by
          cases e : L 1
          · have x := hfin 1 _ rfl e
            simp [Region.binds, l0] at x
          · rfl
        have l2 : L 2 = true := by
          cases e : L 2
          · have x := hfin 2 _ rfl e
            simp [Region.binds, l0, l1] at x
          · rfl
        have l3 : L 3 = true := by
          cases e : L 3
          · have x := hfin 3 _ rfl e
            simp [Region.binds, l0, l1, l2] at x
          · rfl
        have l4 : L 4 = true := by
          cases e : L 4
          · have x := hfin 4 _ rfl e
            simp [Region.binds, l0, l1, l2, l3] at x
          · rfl
        have l5 : L 5 = true := by
          cases e : L 5
          · have x := hfin 5 _ rfl e
            simp [Region.binds, l0, l1, l2, l3, l4] at x
          · rfl
        have l6 : L 6 = true := by
          cases e : L 6
          · have x := hfin 6 _ rfl e
            simp [Region.binds, l0, l1, l2, l3, l4, l5] at x
          · rfl
        have l7 : L 7 = true := by
          cases e : L 7
          · have x := hfin 7 _ rfl e
            simp [Region.binds, l0, l1, l2, l3, l4, l5, l6] at x
          · rfl
        have l8 : L 8 = true := by
          cases e : L 8
          · have x := hfin 8 _ rfl e
            simp [Region.binds, l0, l1, l2, l3, l4, l5, l6, l7] at x
          · rfl
        simp only [l0, l1, l2, l3, l4, l5, l6, l7, l8, bsel_t]
        rw [l2, l5] at hF
        have HO1 := Lib.hid (owns_mono (hF.r1 rfl) HZ.out.size)
        have HO2 := Lib.hid (owns_mono (hF.r2 rfl) HZ.out.size)
        have HZ2 := Lib.hid (HZ.out.trans (hF.bel.mono HZ.out.size))
        clear hF hfin
        go_wp2_with fail
        go_ret3
        exact ⟨_, _, by rw [HP.out]; rfl, by rw [(HRT.out HP.out).1]; exact HO1.out, by rw [(HRT.out HP.out).2]; exact HO2.out, HZ2.out⟩

end Go.Proofs.YtmnnbgciakigfaaDoor
