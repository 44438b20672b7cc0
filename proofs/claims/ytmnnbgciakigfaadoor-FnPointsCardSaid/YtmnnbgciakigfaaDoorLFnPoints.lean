/- The law of points walked: it answers true for each drawn bigraph. -/
import Derived.Test.YtmnnbgciakigfaaDoorProg
import Derived.Test.YtmnnbgciakigfaaDoorGDr
import Derived.Test.YtmnnbgciakigfaaDoorGPoiL
import Derived.Test.YtmnnbgciakigfaaDoorGPartI
import Derived.Test.YtmnnbgciakigfaaDoorRE
import Derived.BigQuiet
set_option linter.unusedVariables false
set_option linter.unusedSimpArgs false
namespace Go.Proofs.YtmnnbgciakigfaaDoor
open Go.RowKit

theorem sumN_le {f : Nat → Nat} {c : Nat} : ∀ n, (∀ i, i < n → f i ≤ c) → sumN f n ≤ n * c
  | 0, _ => by simp [sumN]
  | n + 1, h => by
    have h1 := sumN_le n (fun i hi => h i (by omega)) (f := f) (c := c)
    have h2 := h n (by omega)
    rw [sumN, Nat.add_mul]
    omega
theorem partR_len {sig : List Ct} {g : Gr} (hs : SmallG g) : (partR sig g).length ≤ 1000 := by
  unfold partR
  split
  · unfold partG; rw [partS_len]; exact hs.nodes
  · simp
theorem idleR_len {sig : List Ct} {g : Gr} (hs : SmallG g) : (idleR sig g).length ≤ 10000 := by
  have h2 := hs.edges
  have h3 := hs.outer
  have h4 : nlk g ≤ 2000 := by unfold nlk; omega
  unfold idleR
  split
  · exact Nat.le_trans (idles_len g (nlk g)) (by omega)
  · simp
theorem innR_len {sig : List Ct} {g : Gr} (hs : SmallG g) : (innR sig g).length ≤ 1000 := by
  unfold innR innerN
  split
  · rw [List.length_map]; exact hs.inner
  · simp
theorem endsG_len {g : Gr} (hs : SmallG g) (l : Int) : (endsG g l).length ≤ 1000 := Nat.le_trans (ends_len g l _) hs.inner
theorem ptsG_len {g : Gr} (hs : SmallG g) (l : Int) : (ptsG g l).length ≤ 1000000 := Nat.le_trans (pts_len hs l _ (Nat.le_refl _)) (Nat.le_trans (Nat.mul_le_mul_right 1000 hs.nodes) (by decide))
theorem pr2_at : ∀ {l : List I2} {j : Nat} {x : I2}, l[j]? = some x → (l.flatMap pr2)[j * 2]? = some (.int .i64 x.1)
  | [], _, _, h => by simp at h
  | y :: l, 0, x, h => by simp at h; subst h; rfl
  | y :: l, j + 1, x, h => by
    have := pr2_at (l := l) (j := j) (by simpa using h)
    rw [show (j + 1) * 2 = j * 2 + 2 by omega]
    exact this
theorem pts_cell {w : World} {B c : Nat} {e : TypeId} {A : Option Addr} {l : List I2} (h : w.ownsRow B e 2 (.slice A l.length c) l.length (l.flatMap pr2)) {j : Nat} {x : I2} (hx : l[j]? = some x) : ∃ b, A = some ⟨b, 0, none⟩ ∧ w.cell? ⟨b, j * 2, none⟩ = some (.int .i64 x.1) := by
  have hj := (List.getElem?_eq_some_iff.1 hx).1
  rcases h.2 with ⟨h1, h2⟩ | ⟨g, cap, cur, h1, _⟩
  · omega
  · cases h1
    refine ⟨g, rfl, ?_⟩
    have hc := h.cells (g := g) rfl (j * 2) _ (pr2_at hx)
    have e : (⟨g, 0, none⟩ : Addr).add (j * 2) = ⟨g, j * 2, none⟩ := by simp [Addr.add, eq_comm]
    rw [← e]; exact hc

set_option maxRecDepth 100000 in
set_option maxHeartbeats 16000000 in
theorem lawFnPoints (A : Option Addr) (bs : List Int) (c : Nat) (w : World) (hA : Cells w A (u8s bs)) (hrng : ∀ x ∈ bs, 0 ≤ x ∧ x < 256) (hlen : bs.length ≤ maxLen) :
    Calls Tryd.prog 3 #[.slice A bs.length c] w fun e w' => e = .returned (.bool true) ∧ Below w.heap.size w w' := by
  have HB := Lib.hid (rBig_any A bs.length c w hlen)
  by_cases hbig : 65536 < bs.length
  · rw [show decide (65536 < bs.length) = true from by simp [hbig]] at HB
    clear hbig hlen hA hrng
    go_enter Tryd.func3, Tryd.ntmps3
    go_wp2_with fail
    (with_reducible refine HB.out.mono ?_)
    rintro e w1 ⟨rfl, rfl⟩
    go_wp2_with fail
    go_ret
    exact ⟨rfl, Below.refl _ _⟩
  rw [show decide (65536 < bs.length) = false from by simp [hbig]] at HB
  have HD := Lib.hid (drawLinkParts_any A bs c w hA hrng (by omega))
  clear hbig hlen hA hrng
  go_enter Tryd.func3, Tryd.ntmps3
  go_wp2_with fail
  (with_reducible refine HB.out.mono ?_)
  rintro e w' ⟨rfl, rfl⟩
  go_wp2_with fail
  (with_reducible refine HD.out.mono ?_)
  rintro e w1 ⟨gv, nv, sv, ov, iv, sig, g, rfl, hD0, hb1⟩
  have hD := hD0 w1 (Kept.refl _ _)
  clear HB HD hD0
  have HSM := Lib.hid hD.sm
  have HSZ := Lib.hid hD.sz
  have HCP := Lib.hid hD.cap
  obtain ⟨AN, cN, AS, cS, AO, cO, AI, cI, rfl, rfl, rfl, rfl⟩ := hD.rg.form
  obtain ⟨AG, cG, rfl, _⟩ := hD.sg.form
  have hba := (Below.refl w1.heap.size w1).alloc (Nat.le_refl _) (.cells #[.int .i64 g.roots, .slice AN g.nodes.length cN, .slice AS g.sites.length cS, .int .i64 g.edges, .slice AO g.outer.length cO, .slice AI g.inner.length cI] 30)
  have hsa : (w1.alloc (.cells #[.int .i64 g.roots, .slice AN g.nodes.length cN, .slice AS g.sites.length cS, .int .i64 g.edges, .slice AO g.outer.length cO, .slice AI g.inner.length cI] 30)).heap.size = w1.heap.size + 1 := by simp
  have hxa := heap_alloc_new w1 (.cells #[.int .i64 g.roots, .slice AN g.nodes.length cN, .slice AS g.sites.length cS, .int .i64 g.edges, .slice AO g.outer.length cO, .slice AI g.inner.length cI] 30)
  obtain ⟨W1, hW1⟩ : ∃ W1, W1 = w1.alloc (.cells #[.int .i64 g.roots, .slice AN g.nodes.length cN, .slice AS g.sites.length cS, .int .i64 g.edges, .slice AO g.outer.length cO, .slice AI g.inner.length cI] 30) := ⟨_, rfl⟩
  rw [← hW1] at hba hsa hxa
  have HBX := Lib.hid (show ∀ W, Below W1.heap.size W1 W → W.heap[w1.heap.size]? = some (.cells #[.int .i64 g.roots, .slice AN g.nodes.length cN, .slice AS g.sites.length cS, .int .i64 g.edges, .slice AO g.outer.length cO, .slice AI g.inner.length cI] 30) from fun W hW => (hW.block _ (by omega)).trans hxa)
  have HDG := Lib.hid (show ∀ W, Below W1.heap.size W1 W → DG W (.slice AG sig.length cG) (.slice AN g.nodes.length cN) (.slice AS g.sites.length cS) (.slice AO g.outer.length cO) (.slice AI g.inner.length cI) sig g from fun W hW => (hD.below hba).below hW)
  have HB1 := Lib.hid (hb1.trans (hba.mono hb1.size))
  have hs1 := hb1.size
  clear hba hb1 hD hxa
  obtain ⟨ok, hok⟩ : ∃ ok, ok = goodG sig g := ⟨_, rfl⟩
  have HOK := Lib.hid hok
  have o0 : (ok != ok) = false := bne_self_eq_false _
  obtain ⟨P, hP⟩ : ∃ P, P = partR sig g := ⟨_, rfl⟩
  obtain ⟨I, hI⟩ : ∃ I, I = idleR sig g := ⟨_, rfl⟩
  obtain ⟨N, hN⟩ : ∃ N, N = innR sig g := ⟨_, rfl⟩
  have hpl : P.length ≤ 1000 := by rw [hP]; exact partR_len HSM.out
  have hil : I.length ≤ 10000 := by rw [hI]; exact idleR_len HSM.out
  have hnl : N.length ≤ 1000 := by rw [hN]; exact innR_len HSM.out
  have HP := Lib.hid hP
  have HI := Lib.hid hI
  have HN := Lib.hid hN
  clear hok hP hI hN
  have HB10 := Lib.hid (Below.refl W1.heap.size W1)
  have HW1 := Lib.hid hW1
  clear hW1
  have hx0 := HBX.out W1 HB10.out
  have p0 : World.cell? W1 ⟨w1.heap.size, 0, none⟩ = some (.int .i64 g.roots) := cell_of_row W1 _ 0 _ _ _ hx0
  have p1 : World.cell? W1 ⟨w1.heap.size, 1, none⟩ = some (.slice AN g.nodes.length cN) := cell_of_row W1 _ 1 _ _ _ hx0
  have p2 : World.cell? W1 ⟨w1.heap.size, 2, none⟩ = some (.slice AS g.sites.length cS) := cell_of_row W1 _ 2 _ _ _ hx0
  have p3 : World.cell? W1 ⟨w1.heap.size, 3, none⟩ = some (.int .i64 g.edges) := cell_of_row W1 _ 3 _ _ _ hx0
  have p4 : World.cell? W1 ⟨w1.heap.size, 4, none⟩ = some (.slice AO g.outer.length cO) := cell_of_row W1 _ 4 _ _ _ hx0
  have p5 : World.cell? W1 ⟨w1.heap.size, 5, none⟩ = some (.slice AI g.inner.length cI) := cell_of_row W1 _ 5 _ _ _ hx0
  have hd := HDG.out W1 HB10.out
  have HC := Lib.hid (implLinkParts_any sig g _ _ _ _ _ W1 hd.sm hd.sz hd.cap hd.sg hd.rg)
  rw [← HOK.out, ← HP.out] at HC
  clear hx0 hd
  go_wp2_with fail
  rw [← HW1.out]
  (with_reducible refine HC.out.mono ?_)
  rintro e w2P ⟨r2, rfl, hr2, hbn⟩
  have HBW := Lib.hid (HB10.out.trans (hbn.mono HB10.out.size))
  obtain ⟨AP, cP, rfl, hr2⟩ := owns_form hr2
  have HRP := Lib.hid hr2
  clear hr2
  clear hbn p0 p1 p2 p3 p4 p5 HC
  have hx0 := HBX.out w2P HBW.out
  have p0 : World.cell? w2P ⟨w1.heap.size, 0, none⟩ = some (.int .i64 g.roots) := cell_of_row w2P _ 0 _ _ _ hx0
  have p1 : World.cell? w2P ⟨w1.heap.size, 1, none⟩ = some (.slice AN g.nodes.length cN) := cell_of_row w2P _ 1 _ _ _ hx0
  have p2 : World.cell? w2P ⟨w1.heap.size, 2, none⟩ = some (.slice AS g.sites.length cS) := cell_of_row w2P _ 2 _ _ _ hx0
  have p3 : World.cell? w2P ⟨w1.heap.size, 3, none⟩ = some (.int .i64 g.edges) := cell_of_row w2P _ 3 _ _ _ hx0
  have p4 : World.cell? w2P ⟨w1.heap.size, 4, none⟩ = some (.slice AO g.outer.length cO) := cell_of_row w2P _ 4 _ _ _ hx0
  have p5 : World.cell? w2P ⟨w1.heap.size, 5, none⟩ = some (.slice AI g.inner.length cI) := cell_of_row w2P _ 5 _ _ _ hx0
  have hd := HDG.out w2P HBW.out
  have HC := Lib.hid (specLinkParts_any sig g _ _ _ _ _ w2P hd.sm hd.sz hd.sg hd.rg)
  rw [← HOK.out, ← HP.out] at HC
  clear hx0 hd
  go_wp2_with fail
  (with_reducible refine HC.out.mono ?_)
  rintro e w3P ⟨r3, rfl, hr3, hbn⟩
  have HBW := Lib.hid (HBW.out.trans (hbn.mono HBW.out.size))
  have HRP := Lib.hid (owns_below HRP.out hbn (Nat.le_refl _))
  obtain ⟨BP, dP, rfl, hr3⟩ := owns_form hr3
  have HSP := Lib.hid hr3
  clear hr3
  clear hbn p0 p1 p2 p3 p4 p5 HC
  have HC := Lib.hid (rInts_rows (Nat.le_trans hpl (by decide)) HRP.out HSP.out)
  go_wp2_with fail
  (with_reducible refine HC.out.mono ?_)
  clear HSP
  rintro e w4P ⟨rfl, hbn⟩
  have HBW := Lib.hid (HBW.out.trans (hbn.mono HBW.out.size))
  have HRP := Lib.hid (owns_below HRP.out hbn (Nat.le_refl _))
  clear hbn HC
  have hx0 := HBX.out w4P HBW.out
  have p0 : World.cell? w4P ⟨w1.heap.size, 0, none⟩ = some (.int .i64 g.roots) := cell_of_row w4P _ 0 _ _ _ hx0
  have p1 : World.cell? w4P ⟨w1.heap.size, 1, none⟩ = some (.slice AN g.nodes.length cN) := cell_of_row w4P _ 1 _ _ _ hx0
  have p2 : World.cell? w4P ⟨w1.heap.size, 2, none⟩ = some (.slice AS g.sites.length cS) := cell_of_row w4P _ 2 _ _ _ hx0
  have p3 : World.cell? w4P ⟨w1.heap.size, 3, none⟩ = some (.int .i64 g.edges) := cell_of_row w4P _ 3 _ _ _ hx0
  have p4 : World.cell? w4P ⟨w1.heap.size, 4, none⟩ = some (.slice AO g.outer.length cO) := cell_of_row w4P _ 4 _ _ _ hx0
  have p5 : World.cell? w4P ⟨w1.heap.size, 5, none⟩ = some (.slice AI g.inner.length cI) := cell_of_row w4P _ 5 _ _ _ hx0
  have hd := HDG.out w4P HBW.out
  have HC := Lib.hid (implIdleLinks_any sig g _ _ _ _ _ w4P hd.sm hd.sz hd.cap hd.sg hd.rg)
  rw [← HOK.out, ← HI.out] at HC
  clear hx0 hd
  go_wp2_with fail
  (with_reducible refine HC.out.mono ?_)
  rintro e w2I ⟨r2, rfl, hr2, hbn⟩
  have HBW := Lib.hid (HBW.out.trans (hbn.mono HBW.out.size))
  have HRP := Lib.hid (owns_below HRP.out hbn (Nat.le_refl _))
  obtain ⟨AI2, cI2, rfl, hr2⟩ := owns_form hr2
  have HRI := Lib.hid hr2
  clear hr2
  clear hbn p0 p1 p2 p3 p4 p5 HC
  have hx0 := HBX.out w2I HBW.out
  have p0 : World.cell? w2I ⟨w1.heap.size, 0, none⟩ = some (.int .i64 g.roots) := cell_of_row w2I _ 0 _ _ _ hx0
  have p1 : World.cell? w2I ⟨w1.heap.size, 1, none⟩ = some (.slice AN g.nodes.length cN) := cell_of_row w2I _ 1 _ _ _ hx0
  have p2 : World.cell? w2I ⟨w1.heap.size, 2, none⟩ = some (.slice AS g.sites.length cS) := cell_of_row w2I _ 2 _ _ _ hx0
  have p3 : World.cell? w2I ⟨w1.heap.size, 3, none⟩ = some (.int .i64 g.edges) := cell_of_row w2I _ 3 _ _ _ hx0
  have p4 : World.cell? w2I ⟨w1.heap.size, 4, none⟩ = some (.slice AO g.outer.length cO) := cell_of_row w2I _ 4 _ _ _ hx0
  have p5 : World.cell? w2I ⟨w1.heap.size, 5, none⟩ = some (.slice AI g.inner.length cI) := cell_of_row w2I _ 5 _ _ _ hx0
  have hd := HDG.out w2I HBW.out
  have HC := Lib.hid (specIdleLinks_any sig g _ _ _ _ _ w2I hd.sm hd.sz hd.sg hd.rg)
  rw [← HOK.out, ← HI.out] at HC
  clear hx0 hd
  go_wp2_with fail
  (with_reducible refine HC.out.mono ?_)
  rintro e w3I ⟨r3, rfl, hr3, hbn⟩
  have HBW := Lib.hid (HBW.out.trans (hbn.mono HBW.out.size))
  have HRP := Lib.hid (owns_below HRP.out hbn (Nat.le_refl _))
  have HRI := Lib.hid (owns_below HRI.out hbn (Nat.le_refl _))
  obtain ⟨BI, dI, rfl, hr3⟩ := owns_form hr3
  have HSI := Lib.hid hr3
  clear hr3
  clear hbn p0 p1 p2 p3 p4 p5 HC
  have HC := Lib.hid (rInts_rows (Nat.le_trans hil (by decide)) HRI.out HSI.out)
  go_wp2_with fail
  (with_reducible refine HC.out.mono ?_)
  clear HSI
  rintro e w4I ⟨rfl, hbn⟩
  have HBW := Lib.hid (HBW.out.trans (hbn.mono HBW.out.size))
  have HRP := Lib.hid (owns_below HRP.out hbn (Nat.le_refl _))
  have HRI := Lib.hid (owns_below HRI.out hbn (Nat.le_refl _))
  clear hbn HC
  have hx0 := HBX.out w4I HBW.out
  have p0 : World.cell? w4I ⟨w1.heap.size, 0, none⟩ = some (.int .i64 g.roots) := cell_of_row w4I _ 0 _ _ _ hx0
  have p1 : World.cell? w4I ⟨w1.heap.size, 1, none⟩ = some (.slice AN g.nodes.length cN) := cell_of_row w4I _ 1 _ _ _ hx0
  have p2 : World.cell? w4I ⟨w1.heap.size, 2, none⟩ = some (.slice AS g.sites.length cS) := cell_of_row w4I _ 2 _ _ _ hx0
  have p3 : World.cell? w4I ⟨w1.heap.size, 3, none⟩ = some (.int .i64 g.edges) := cell_of_row w4I _ 3 _ _ _ hx0
  have p4 : World.cell? w4I ⟨w1.heap.size, 4, none⟩ = some (.slice AO g.outer.length cO) := cell_of_row w4I _ 4 _ _ _ hx0
  have p5 : World.cell? w4I ⟨w1.heap.size, 5, none⟩ = some (.slice AI g.inner.length cI) := cell_of_row w4I _ 5 _ _ _ hx0
  have hd := HDG.out w4I HBW.out
  have HC := Lib.hid (implInnerNames_any sig g _ _ _ _ _ w4I hd.sm hd.sz hd.cap hd.sg hd.rg)
  rw [← HOK.out, ← HN.out] at HC
  clear hx0 hd
  go_wp2_with fail
  (with_reducible refine HC.out.mono ?_)
  rintro e w2N ⟨r2, rfl, hr2, hbn⟩
  have HBW := Lib.hid (HBW.out.trans (hbn.mono HBW.out.size))
  have HRP := Lib.hid (owns_below HRP.out hbn (Nat.le_refl _))
  have HRI := Lib.hid (owns_below HRI.out hbn (Nat.le_refl _))
  obtain ⟨AN2, cN2, rfl, hr2⟩ := owns_form hr2
  have HRN := Lib.hid hr2
  clear hr2
  clear hbn p0 p1 p2 p3 p4 p5 HC
  have hx0 := HBX.out w2N HBW.out
  have p0 : World.cell? w2N ⟨w1.heap.size, 0, none⟩ = some (.int .i64 g.roots) := cell_of_row w2N _ 0 _ _ _ hx0
  have p1 : World.cell? w2N ⟨w1.heap.size, 1, none⟩ = some (.slice AN g.nodes.length cN) := cell_of_row w2N _ 1 _ _ _ hx0
  have p2 : World.cell? w2N ⟨w1.heap.size, 2, none⟩ = some (.slice AS g.sites.length cS) := cell_of_row w2N _ 2 _ _ _ hx0
  have p3 : World.cell? w2N ⟨w1.heap.size, 3, none⟩ = some (.int .i64 g.edges) := cell_of_row w2N _ 3 _ _ _ hx0
  have p4 : World.cell? w2N ⟨w1.heap.size, 4, none⟩ = some (.slice AO g.outer.length cO) := cell_of_row w2N _ 4 _ _ _ hx0
  have p5 : World.cell? w2N ⟨w1.heap.size, 5, none⟩ = some (.slice AI g.inner.length cI) := cell_of_row w2N _ 5 _ _ _ hx0
  have hd := HDG.out w2N HBW.out
  have HC := Lib.hid (specInnerNames_any sig g _ _ _ _ _ w2N hd.sm hd.sz hd.sg hd.rg)
  rw [← HOK.out, ← HN.out] at HC
  clear hx0 hd
  go_wp2_with fail
  (with_reducible refine HC.out.mono ?_)
  rintro e w3N ⟨r3, rfl, hr3, hbn⟩
  have HBW := Lib.hid (HBW.out.trans (hbn.mono HBW.out.size))
  have HRP := Lib.hid (owns_below HRP.out hbn (Nat.le_refl _))
  have HRI := Lib.hid (owns_below HRI.out hbn (Nat.le_refl _))
  have HRN := Lib.hid (owns_below HRN.out hbn (Nat.le_refl _))
  obtain ⟨BN, dN, rfl, hr3⟩ := owns_form hr3
  have HSN := Lib.hid hr3
  clear hr3
  clear hbn p0 p1 p2 p3 p4 p5 HC
  have HC := Lib.hid (rTexts_rows (Nat.le_trans hnl (by decide)) HRN.out HSN.out)
  go_wp2_with fail
  (with_reducible refine HC.out.mono ?_)
  clear HSN
  rintro e w4N ⟨rfl, hbn⟩
  have HBW := Lib.hid (HBW.out.trans (hbn.mono HBW.out.size))
  have HRP := Lib.hid (owns_below HRP.out hbn (Nat.le_refl _))
  have HRI := Lib.hid (owns_below HRI.out hbn (Nat.le_refl _))
  have HRN := Lib.hid (owns_below HRN.out hbn (Nat.le_refl _))
  clear hbn HC
  cases hok : ok
  · clear o0
    subst hok
    go_wp2_with fail
    go_ret
    exact ⟨rfl, HB1.out.trans (HBW.out.mono HB1.out.size)⟩
  subst hok
  clear o0
  have hg := HOK.out.symm
  have HPG := Lib.hid (show P = partG g from by rw [HP.out]; unfold partR; rw [hg]; rfl)
  have HIG := Lib.hid (show I = idlesTo g (nlk g) from by rw [HI.out]; unfold idleR; rw [hg]; rfl)
  have hnn : N.length = g.inner.length := by rw [HN.out]; unfold innR innerN; rw [hg]; simp
  have HGD := Lib.hid hg
  have HNN := Lib.hid (show ((N.length : Int) == (g.inner.length : Int)) = true from by rw [hnn]; exact beq_self_eq_true _)
  have hed := good_edges hg
  have hnk := good_nlk hg
  have HNK := Lib.hid hnk
  have hsm := HSM.out
  have hgn := hsm.nodes
  have hgi := hsm.inner
  have hgo := hsm.outer
  have hnlk : nlk g ≤ 2000 := by omega
  have HLN := Lib.hid (show ∀ i, (nodA g i).2.2.length ≤ 1000 from fun i => by
    unfold nodA
    rw [List.getD_eq_getElem?_getD]
    cases h : g.nodes[i]? with
    | none => exact Nat.zero_le _
    | some x => exact hsm.links x (List.mem_of_getElem? h))
  have hx0 := HBX.out w4N HBW.out
  have p0 : World.cell? w4N ⟨w1.heap.size, 0, none⟩ = some (.int .i64 g.roots) := cell_of_row w4N _ 0 _ _ _ hx0
  have p1 : World.cell? w4N ⟨w1.heap.size, 1, none⟩ = some (.slice AN g.nodes.length cN) := cell_of_row w4N _ 1 _ _ _ hx0
  have p2 : World.cell? w4N ⟨w1.heap.size, 2, none⟩ = some (.slice AS g.sites.length cS) := cell_of_row w4N _ 2 _ _ _ hx0
  have p3 : World.cell? w4N ⟨w1.heap.size, 3, none⟩ = some (.int .i64 g.edges) := cell_of_row w4N _ 3 _ _ _ hx0
  have p4 : World.cell? w4N ⟨w1.heap.size, 4, none⟩ = some (.slice AO g.outer.length cO) := cell_of_row w4N _ 4 _ _ _ hx0
  have p5 : World.cell? w4N ⟨w1.heap.size, 5, none⟩ = some (.slice AI g.inner.length cI) := cell_of_row w4N _ 5 _ _ _ hx0
  clear hx0 hg hnn hnk hsm
  go_wp2_with fail
  go_quiet (fail)
  go_wp2_with fail
  go_loopw [18, 19] (fun a z wr => ∃ k s : Nat, k ≤ g.nodes.length ∧ z = .int .i64 (k : Int) ∧ a = .int .i64 (s : Int) ∧ s = g.inner.length + sumN (fun i => (nodA g i).2.2.length) k ∧ Below w4N.heap.size w4N wr)
    (fun a z _ => g.nodes.length - (intOf z).toNat)
  case atStart => exact ⟨0, g.inner.length, Nat.zero_le _, rfl, rfl, rfl, below_drewN' (Below.refl _ _) _⟩
  case round =>
    clear p0 p1 p2 p3 p4 p5
    obtain ⟨k, s, hk, rfl, rfl, hss, hbl⟩ := hrel
    have hsb : s ≤ 2000000 := by
      have h1 := sumN_le (f := fun i => (nodA g i).2.2.length) (c := 1000) k (fun i _ => HLN.out i)
      have h2 : k * 1000 ≤ 1000 * 1000 := Nat.mul_le_mul_right 1000 (Nat.le_trans hk hgn)
      omega
    have HSS := Lib.hid hss
    have HBL := Lib.hid hbl
    have HBR := Lib.hid (HBW.out.trans (hbl.mono HBW.out.size))
    have hx0 := HBX.out wr HBR.out
    have p0 : World.cell? wr ⟨w1.heap.size, 0, none⟩ = some (.int .i64 g.roots) := cell_of_row wr _ 0 _ _ _ hx0
    have p1 : World.cell? wr ⟨w1.heap.size, 1, none⟩ = some (.slice AN g.nodes.length cN) := cell_of_row wr _ 1 _ _ _ hx0
    have p2 : World.cell? wr ⟨w1.heap.size, 2, none⟩ = some (.slice AS g.sites.length cS) := cell_of_row wr _ 2 _ _ _ hx0
    have p3 : World.cell? wr ⟨w1.heap.size, 3, none⟩ = some (.int .i64 g.edges) := cell_of_row wr _ 3 _ _ _ hx0
    have p4 : World.cell? wr ⟨w1.heap.size, 4, none⟩ = some (.slice AO g.outer.length cO) := cell_of_row wr _ 4 _ _ _ hx0
    have p5 : World.cell? wr ⟨w1.heap.size, 5, none⟩ = some (.slice AI g.inner.length cI) := cell_of_row wr _ 5 _ _ _ hx0
    clear hss hbl hx0
    by_cases hkl : k < g.nodes.length
    · obtain ⟨bN, oN, cN2, AL, dL, eN, _, _, m2, _⟩ := nod_at (HDG.out wr HBR.out).rg.n hkl
      have hnk2 : nodA g k = g.nodes[k] := by unfold nodA; rw [List.getD_eq_getElem?_getD, List.getElem?_eq_getElem hkl]; rfl
      rw [← hnk2] at m2
      have hlk := HLN.out k
      cases eN
      obtain ⟨ln, hln⟩ : ∃ ln, ln = (nodA g k).2.2.length := ⟨_, rfl⟩
      rw [← hln] at m2 hlk
      have HLL := Lib.hid hln
      have u0 : (0 : Int) ≤ (k : Int) := by omega
      have u1 : (k : Int) < (g.nodes.length : Int) := by omega
      clear hnk2 hln
      go_wp2_with fail
      go_roundw
      case rel => exact ⟨k + 1, s + ln, hkl, by go_num, by go_num, by rw [HSS.out, HLL.out, sumN]; omega, HBL.out⟩
      case measure => simp [intOf]; omega
    · obtain rfl : k = g.nodes.length := Nat.le_antisymm hk (Nat.le_of_not_lt hkl)
      have HS1 := Lib.hid (show s = allP g from HSS.out)
      have HRP := Lib.hid (owns_below HRP.out HBL.out (Nat.le_refl _))
      have HRI := Lib.hid (owns_below HRI.out HBL.out (Nat.le_refl _))
      obtain ⟨wq, hwq⟩ : ∃ wq, wq = wr := ⟨_, rfl⟩
      rw [← hwq] at HRP HRI HBR
      have HWQ := Lib.hid hwq
      clear HSS HBL hkl hwq
      go_wp2_with fail
      go_loopw [17, 20] (fun a z wr => ∃ l t : Nat, l ≤ nlk g ∧ z = .int .i64 (l : Int) ∧ a = .int .i64 (t : Int) ∧ t = sumN (fun l : Nat => (ptsG g (l : Int)).length + (endsG g (l : Int)).length) l ∧ Below wq.heap.size wq wr)
        (fun a z _ => nlk g - (intOf z).toNat)
      case atStart => exact ⟨0, 0, Nat.zero_le _, rfl, rfl, rfl, by rw [HWQ.out]; exact Below.refl _ _⟩
      case round =>
        clear p0 p1 p2 p3 p4 p5
        obtain ⟨l, t, hl, rfl, rfl, htt, hbl⟩ := hrel
        have htb : t ≤ 4000000000 := by
          have h1 := sumN_le (f := fun l : Nat => (ptsG g (l : Int)).length + (endsG g (l : Int)).length) (c := 1001000) l (fun i _ => by have a1 := ptsG_len HSM.out (i : Int); have a2 := endsG_len HSM.out (i : Int); omega)
          have h2 : l * 1001000 ≤ 2000 * 1001000 := Nat.mul_le_mul_right 1001000 (Nat.le_trans hl hnlk)
          omega
        have HTT := Lib.hid htt
        have HBS := Lib.hid (HBR.out.trans (hbl.mono HBR.out.size))
        have HRP := Lib.hid (owns_below HRP.out hbl (Nat.le_refl _))
        have HRI := Lib.hid (owns_below HRI.out hbl (Nat.le_refl _))
        have HBL := Lib.hid hbl
        have hx0 := HBX.out wr HBS.out
        have p0 : World.cell? wr ⟨w1.heap.size, 0, none⟩ = some (.int .i64 g.roots) := cell_of_row wr _ 0 _ _ _ hx0
        have p1 : World.cell? wr ⟨w1.heap.size, 1, none⟩ = some (.slice AN g.nodes.length cN) := cell_of_row wr _ 1 _ _ _ hx0
        have p2 : World.cell? wr ⟨w1.heap.size, 2, none⟩ = some (.slice AS g.sites.length cS) := cell_of_row wr _ 2 _ _ _ hx0
        have p3 : World.cell? wr ⟨w1.heap.size, 3, none⟩ = some (.int .i64 g.edges) := cell_of_row wr _ 3 _ _ _ hx0
        have p4 : World.cell? wr ⟨w1.heap.size, 4, none⟩ = some (.slice AO g.outer.length cO) := cell_of_row wr _ 4 _ _ _ hx0
        have p5 : World.cell? wr ⟨w1.heap.size, 5, none⟩ = some (.slice AI g.inner.length cI) := cell_of_row wr _ 5 _ _ _ hx0
        clear htt hbl hx0
        by_cases hll : l < nlk g
        · have hl1 : (l : Int) < g.edges + (g.outer.length : Int) := by have := HNK.out; omega
          have hpo : poiB sig g (l : Int) = true := by unfold poiB; rw [HGD.out, linkB_of HGD.out hll]; rfl
          have e1 : ptsR sig g (l : Int) = ptsG g (l : Int) := by unfold ptsR; rw [hpo]; rfl
          have e2 : endsR sig g (l : Int) = endsG g (l : Int) := by unfold endsR; rw [hpo]; rfl
          have hd := HDG.out wr HBS.out
          have HC := Lib.hid (implPointsOf_any sig g _ _ _ _ _ (l : Int) wr hd.sm hd.sz hd.cap hd.sg hd.rg)
          have HBI := Lib.hid (show I.contains (l : Int) = idleB g (l : Int) from by rw [HIG.out]; exact idles_has hll)
          have HIA := Lib.hid (idle_add g (l : Int))
          have HPP := Lib.hid (fun x (hx : x ∈ ptsG g (l : Int)) y (hy : y ∈ ptsG g (l : Int)) => pts_part hx hy)
          have hn1 := ptsG_len HSM.out (l : Int)
          have hm1 := endsG_len HSM.out (l : Int)
          have HE1 := Lib.hid e1
          have HE2 := Lib.hid e2
          have HPO := Lib.hid hpo
          rw [hpo, e1, e2] at HC
          clear hpo e1 e2 hd
          obtain ⟨PT, hPT⟩ : ∃ PT, PT = ptsG g (l : Int) := ⟨_, rfl⟩
          obtain ⟨EN, hEN⟩ : ∃ EN, EN = endsG g (l : Int) := ⟨_, rfl⟩
          rw [← hPT] at HC HIA HPP HE1 hn1
          rw [← hEN] at HC HIA HE2 hm1
          have HPT := Lib.hid hPT
          have HEN := Lib.hid hEN
          obtain ⟨bi, hbi⟩ : ∃ bi, bi = idleB g (l : Int) := ⟨_, rfl⟩
          rw [← hbi] at HBI HIA
          have b0 : (bi != bi) = false := bne_self_eq_false _
          clear hPT hEN hbi
          go_wp2_with fail
          (with_reducible refine HC.out.mono ?_)
          rintro e x2 ⟨r2, q2, rfl, hr2, hq2, hbn⟩
          obtain ⟨AT, cT, rfl, hr2⟩ := owns_form hr2
          obtain ⟨AE, cE, rfl, hq2⟩ := owns_form hq2
          have HT := Lib.hid hr2
          have HQ := Lib.hid hq2
          have HBX2 := Lib.hid (HBS.out.trans (hbn.mono HBS.out.size))
          have HBL := Lib.hid (HBL.out.trans (hbn.mono HBL.out.size))
          have HRP := Lib.hid (owns_below HRP.out hbn (Nat.le_refl _))
          have HRI := Lib.hid (owns_below HRI.out hbn (Nat.le_refl _))
          clear hr2 hq2 hbn HC p0 p1 p2 p3 p4 p5
          have hx0 := HBX.out x2 HBX2.out
          have p0 : World.cell? x2 ⟨w1.heap.size, 0, none⟩ = some (.int .i64 g.roots) := cell_of_row x2 _ 0 _ _ _ hx0
          have p1 : World.cell? x2 ⟨w1.heap.size, 1, none⟩ = some (.slice AN g.nodes.length cN) := cell_of_row x2 _ 1 _ _ _ hx0
          have p2 : World.cell? x2 ⟨w1.heap.size, 2, none⟩ = some (.slice AS g.sites.length cS) := cell_of_row x2 _ 2 _ _ _ hx0
          have p3 : World.cell? x2 ⟨w1.heap.size, 3, none⟩ = some (.int .i64 g.edges) := cell_of_row x2 _ 3 _ _ _ hx0
          have p4 : World.cell? x2 ⟨w1.heap.size, 4, none⟩ = some (.slice AO g.outer.length cO) := cell_of_row x2 _ 4 _ _ _ hx0
          have p5 : World.cell? x2 ⟨w1.heap.size, 5, none⟩ = some (.slice AI g.inner.length cI) := cell_of_row x2 _ 5 _ _ _ hx0
          have hd := HDG.out x2 HBX2.out
          have HC := Lib.hid (specPointsOf_any sig g _ _ _ _ _ (l : Int) x2 hd.sm hd.sz hd.sg hd.rg)
          rw [HPO.out, HE1.out, HE2.out] at HC
          clear hx0 hd
          go_wp2_with fail
          (with_reducible refine HC.out.mono ?_)
          rintro e x3 ⟨r3, q3, rfl, hr3, hq3, hbn⟩
          obtain ⟨AT3, cT3, rfl, _⟩ := owns_form hr3
          have HQ := Lib.hid (owns_below HQ.out hbn (Nat.le_refl _))
          have HT := Lib.hid (owns_below HT.out hbn (Nat.le_refl _))
          have HBX3 := Lib.hid (HBX2.out.trans (hbn.mono HBX2.out.size))
          have HBL := Lib.hid (HBL.out.trans (hbn.mono HBL.out.size))
          have HRP := Lib.hid (owns_below HRP.out hbn (Nat.le_refl _))
          have HRI := Lib.hid (owns_below HRI.out hbn (Nat.le_refl _))
          have HC := Lib.hid (rTexts_rows (Nat.le_trans hm1 (by decide)) HQ.out hq3)
          obtain ⟨AE3, cE3, rfl, _⟩ := owns_form hq3
          clear hr3 hq3 hbn HQ p0 p1 p2 p3 p4 p5
          go_wp2_with fail
          (with_reducible refine HC.out.mono ?_)
          rintro e x4 ⟨rfl, hbn⟩
          have HT := Lib.hid (owns_below HT.out hbn (Nat.le_refl _))
          have HBX4 := Lib.hid (HBX3.out.trans (hbn.mono HBX3.out.size))
          have HBL := Lib.hid (HBL.out.trans (hbn.mono HBL.out.size))
          have HRP := Lib.hid (owns_below HRP.out hbn (Nat.le_refl _))
          have HRI := Lib.hid (owns_below HRI.out hbn (Nat.le_refl _))
          have HC := Lib.hid (rHas_any AI2 cI2 I (l : Int) x4 (Nat.le_trans hil (by decide)) (Cells.of_owns HRI.out))
          rw [HBI.out] at HC
          have hia := HIA.out
          clear hbn
          go_wp2_with fail
          (with_reducible refine HC.out.mono ?_)
          rintro e x5 ⟨rfl, rfl⟩
          clear HC
          go_wp2_with fail
          go_loopw [27] (fun z wr => ∃ j : Nat, j ≤ PT.length ∧ z = .int .i64 (j : Int) ∧ Below x4.heap.size x4 wr)
            (fun z _ => PT.length - (intOf z).toNat)
          case atStart => exact ⟨0, Nat.zero_le _, rfl, Below.refl _ _⟩
          case round =>
            obtain ⟨j, hj, rfl, hbl⟩ := hrel
            have HBJ := Lib.hid hbl
            have HT2 := Lib.hid (owns_below HT.out hbl (Nat.le_refl _))
            have HRP2 := Lib.hid (owns_below HRP.out hbl (Nat.le_refl _))
            clear hbl
            by_cases hjl : j < PT.length
            · obtain ⟨xj, hxj⟩ : ∃ xj, PT[j]? = some xj := ⟨_, List.getElem?_eq_getElem hjl⟩
              obtain ⟨xz, hxz⟩ : ∃ xz, PT[0]? = some xz := ⟨_, List.getElem?_eq_getElem (show 0 < PT.length by omega)⟩
              obtain ⟨bT, eT, cj⟩ := pts_cell HT2.out hxj
              obtain ⟨bT', eT', cz⟩ := pts_cell HT2.out hxz
              obtain rfl : bT = bT' := by rw [eT] at eT'; cases eT'; rfl
              subst eT
              obtain ⟨ix, iy, ex, ey, hix, hiy, hpp⟩ := HPP.out xj (List.mem_of_getElem? hxj) xz (List.mem_of_getElem? hxz)
              rw [ex] at cj
              rw [ey, Nat.zero_mul] at cz
              have hplen : P.length = g.nodes.length := by rw [HPG.out]; unfold partG; exact partS_len _ _ _
              obtain ⟨bP, eP, _, _⟩ := ownsP HRP2.out (by omega)
              have d1 := int_cell (by rw [← eP]; exact HRP2.out) rfl (show ix < P.length by omega)
              have d2 := int_cell (by rw [← eP]; exact HRP2.out) rfl (show iy < P.length by omega)
              rw [← HPG.out] at hpp
              rw [← hpp] at d2
              obtain ⟨pv, hpv⟩ : ∃ pv, pv = P.getD ix 0 := ⟨_, rfl⟩
              rw [← hpv] at d1 d2
              have b1 : (pv != pv) = false := bne_self_eq_false _
              have u0 : (0 : Int) ≤ (j : Int) := by omega
              have u1 : (j : Int) < (PT.length : Int) := by omega
              have u2 : ¬ (ix : Int) < 0 := by omega
              have u3 : ¬ (P.length : Int) ≤ (ix : Int) := by omega
              have u3a : ¬ P.length ≤ ix := by omega
              have u3b : decide ((ix : Int) < 0) = false := decide_eq_false u2
              have u3c : decide (P.length ≤ ix) = false := decide_eq_false u3a
              have u3d : decide ((P.length : Int) ≤ (ix : Int)) = false := decide_eq_false u3
              have u3e : ix < P.length := by omega
              have u4 : (0 : Int) ≤ (ix : Int) := by omega
              have u5 : (ix : Int) < (P.length : Int) := by omega
              have u6 : (0 : Int) ≤ (iy : Int) := by omega
              have u7 : (iy : Int) < (P.length : Int) := by omega
              have u8 : (0 : Int) < (PT.length : Int) := by omega
              subst eP
              clear hxj hxz ex ey hix hiy hpp hpv hplen eT'
              go_wp2_with fail
              go_quiet (fail)
              go_wp2_with fail
              go_roundw
              case rel => exact ⟨j + 1, hjl, by go_num, below_drewN' HBJ.out _⟩
              case measure => simp [intOf]; omega
            · obtain rfl : j = PT.length := Nat.le_antisymm hj (Nat.le_of_not_lt hjl)
              clear hjl
              go_wp2_with fail
              go_roundw
              case rel => exact ⟨l + 1, t + PT.length + EN.length, hll, by go_num, by go_num, by rw [HTT.out, sumN, HPT.out, HEN.out]; omega, HBL.out.trans (HBJ.out.mono HBL.out.size)⟩
              case measure => simp [intOf]; omega
        · obtain rfl : l = nlk g := Nat.le_antisymm hl (Nat.le_of_not_lt hll)
          have hl1 : ¬ ((nlk g : Nat) : Int) < g.edges + (g.outer.length : Int) := by have := HNK.out; omega
          have hst : t = s := by rw [HTT.out, HS1.out]; exact points_all HGD.out
          have b1 : ((t : Int) == (s : Int)) = true := by rw [hst]; exact beq_self_eq_true _
          have b2 := HNN.out
          clear hst hll
          go_wp2_with fail
          go_ret
          exact ⟨rfl, HB1.out.trans (HBS.out.mono HB1.out.size)⟩

end Go.Proofs.YtmnnbgciakigfaaDoor
