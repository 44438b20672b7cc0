/- Idle links, and the inner names' list: both packages walked. -/
import Derived.Test.YtmnnbgciakigfaaDoorProg
import Derived.Test.YtmnnbgciakigfaaDoorGPtsI
import Derived.Test.YtmnnbgciakigfaaDoorGFnG
set_option linter.unusedVariables false
namespace Go.Proofs.YtmnnbgciakigfaaDoor
open Go.RowKit

theorem el_intG : El Tryd.prog 26 3 1 8 := El.mk' Tryd.underlying26 (by kernel_rfl : _ = some (some (.int .i64 0), 1, 8)) rfl (by decide)
def idleB (g : Gr) (link : Int) : Bool := ((ptsG g link).length : Int) == 0 && ((endsG g link).length : Int) == 0
def idlesTo (g : Gr) (n : Nat) : List Int := ((List.range n).filter fun l : Nat => idleB g (l : Int)).map fun l : Nat => (l : Int)
def nlk (g : Gr) : Nat := (g.edges + g.outer.length).toNat
def idleR (sig : List Ct) (g : Gr) : List Int := if goodG sig g then idlesTo g (nlk g) else []
def innR (sig : List Ct) (g : Gr) : List ByteArray := if goodG sig g then innerN g else []
theorem idle_add (g : Gr) (link : Int) : (((ptsG g link).length : Int) + ((endsG g link).length : Int) == 0) = idleB g link := by
  unfold idleB
  by_cases h1 : (ptsG g link).length = 0
  · by_cases h2 : (endsG g link).length = 0
    · rw [h1, h2]; rfl
    · have e : (((endsG g link).length : Int) == 0) = false := by rw [beq_eq_false_iff_ne]; omega
      rw [e, Bool.and_false, beq_eq_false_iff_ne]; omega
  · have e : (((ptsG g link).length : Int) == 0) = false := by rw [beq_eq_false_iff_ne]; omega
    rw [e, Bool.false_and, beq_eq_false_iff_ne]; omega
theorem idles_yes {g : Gr} {k : Nat} (h : idleB g (k : Int) = true) : idlesTo g (k + 1) = idlesTo g k ++ [(k : Int)] := by
  unfold idlesTo
  rw [List.range_succ, List.filter_append, List.map_append]
  simp only [List.filter_cons, h, if_true, List.filter_nil, List.map_cons, List.map_nil]
theorem idles_no {g : Gr} {k : Nat} (h : idleB g (k : Int) = false) : idlesTo g (k + 1) = idlesTo g k := by
  unfold idlesTo
  rw [List.range_succ, List.filter_append, List.map_append]
  simp only [List.filter_cons, h, List.filter_nil, List.map_nil, List.append_nil]
  simp
theorem idles_len (g : Gr) (n : Nat) : (idlesTo g n).length ≤ n := by
  unfold idlesTo
  rw [List.length_map]
  have := List.length_filter_le (fun l : Nat => idleB g (l : Int)) (List.range n)
  rwa [List.length_range] at this
theorem good_edges {sig : List Ct} {g : Gr} (h : goodG sig g = true) : 0 ≤ g.edges ∧ g.edges ≤ 8 := by
  rw [goodG_of] at h
  simp only [Bool.and_eq_true] at h
  have hh := h.1.1.1.1.1
  unfold headB at hh
  simp only [Bool.and_eq_true] at hh
  exact inB_true hh.2
theorem none_row {w : World} {B : Nat} {e : TypeId} {s : Nat} : w.ownsRow B e s (.slice none 0 0) 0 [] := ⟨by simp, .inl ⟨rfl, rfl⟩⟩
theorem ints_app (l : List Int) (x : Int) : ints (l ++ [x]) = ints l ++ [.int .i64 x] := by simp [ints]

set_option maxHeartbeats 2000000 in
theorem l2Idle_any (g : Gr) (nv sv ov iv : Value) (link : Int) (w : World) (hs : SmallG g) (hG : RGr w nv sv ov iv g) :
    Calls Tryd.prog 25 #[.agg #[.int .i64 g.roots, nv, sv, .int .i64 g.edges, ov, iv], .int .i64 link] w fun e w' => e = .returned (.bool (idleB g link)) ∧ Below w.heap.size w w' := by
  have HG := Lib.hid (show ∀ W, Below w.heap.size w W → RGr W nv sv ov iv g from fun W hb => hG.below hb)
  have HSM := Lib.hid hs
  obtain ⟨AN, cN, AS, cS, AO, cO, AI, cI, rfl, rfl, rfl, rfl⟩ := hG.form
  obtain ⟨w0, hw0⟩ : ∃ w0, w0 = w.alloc (.cells #[.int .i64 g.roots, .slice AN g.nodes.length cN, .slice AS g.sites.length cS, .int .i64 g.edges, .slice AO g.outer.length cO, .slice AI g.inner.length cI] 30) := ⟨_, rfl⟩
  have hb0 : Below w.heap.size w w0 := by rw [hw0]; exact (Below.refl _ _).alloc (Nat.le_refl _) _
  have bx0 : w0.heap[w.heap.size]? = some (.cells #[.int .i64 g.roots, .slice AN g.nodes.length cN, .slice AS g.sites.length cS, .int .i64 g.edges, .slice AO g.outer.length cO, .slice AI g.inner.length cI] 30) := by rw [hw0]; exact heap_alloc_new _ _
  have hsz0 : w0.heap.size = w.heap.size + 1 := by rw [hw0]; simp
  have HX := Lib.hid (show ∀ W, Below w0.heap.size w0 W → W.heap[w.heap.size]? = some (.cells #[.int .i64 g.roots, .slice AN g.nodes.length cN, .slice AS g.sites.length cS, .int .i64 g.edges, .slice AO g.outer.length cO, .slice AI g.inner.length cI] 30) from fun W hW => (hW.block _ (by omega)).trans bx0)
  have HB0 := Lib.hid hb0
  have HW0 := Lib.hid hw0
  have H1 := Lib.hid (l2Ports_any g _ _ _ _ link w0 hs (HG.out w0 hb0))
  have H2 := Lib.hid (fun W hb => l2Ends_any g _ _ _ _ link W hs (HG.out W hb))
  have HE := Lib.hid (show idleB g link = (((ptsG g link).length : Int) == 0 && ((endsG g link).length : Int) == 0) from rfl)
  have x0 := cell_of_row _ _ 0 _ _ _ bx0
  have x1 := cell_of_row _ _ 1 _ _ _ bx0
  have x2 := cell_of_row _ _ 2 _ _ _ bx0
  have x3 := cell_of_row _ _ 3 _ _ _ bx0
  have x4 := cell_of_row _ _ 4 _ _ _ bx0
  have x5 := cell_of_row _ _ 5 _ _ _ bx0
  rw [hw0] at x0 x1 x2 x3 x4 x5
  clear hs hG hb0 bx0 hw0
  cases h : (((ptsG g link).length : Int) == 0)
  · go_enter Tryd.func25, Tryd.ntmps25
    go_wp2_with fail
    rw [← HW0.out]
    refine H1.out.mono ?_
    rintro e w1 ⟨r, rfl, ho, hb1⟩
    obtain ⟨A1, c1, rfl, _⟩ := owns_form ho
    have HZ1 := Lib.hid (HB0.out.trans (hb1.mono HB0.out.size))
    clear x0 x1 x2 x3 x4 x5 ho hb1
    go_wp2_with fail
    go_ret
    exact ⟨by rw [HE.out, h]; rfl, HZ1.out⟩
  · go_enter Tryd.func25, Tryd.ntmps25
    go_wp2_with fail
    rw [← HW0.out]
    refine H1.out.mono ?_
    rintro e w1 ⟨r, rfl, ho, hb1⟩
    obtain ⟨A1, c1, rfl, _⟩ := owns_form ho
    have HZ1 := Lib.hid (HB0.out.trans (hb1.mono HB0.out.size))
    have bx1 := HX.out w1 hb1
    clear x0 x1 x2 x3 x4 x5 ho hb1
    have x0 := cell_of_row _ _ 0 _ _ _ bx1
    have x1 := cell_of_row _ _ 1 _ _ _ bx1
    have x2 := cell_of_row _ _ 2 _ _ _ bx1
    have x3 := cell_of_row _ _ 3 _ _ _ bx1
    have x4 := cell_of_row _ _ 4 _ _ _ bx1
    have x5 := cell_of_row _ _ 5 _ _ _ bx1
    have HH2 := Lib.hid (H2.out w1 HZ1.out)
    clear bx1
    go_wp2_with fail
    refine HH2.out.mono ?_
    rintro e w2 ⟨r2, rfl, ho2, hb2⟩
    obtain ⟨A2, c2, rfl, _⟩ := owns_form ho2
    have HZ2 := Lib.hid (HZ1.out.trans (hb2.mono HZ1.out.size))
    clear x0 x1 x2 x3 x4 x5 ho2 hb2
    go_wp2_with fail
    go_ret
    exact ⟨by rw [HE.out, h, Bool.true_and]; rfl, HZ2.out⟩

set_option maxHeartbeats 2000000 in
theorem isIdle_any (g : Gr) (nv sv ov iv : Value) (link : Int) (w : World) (hs : SmallG g) (hG : RGr w nv sv ov iv g) :
    Calls Tryd.prog 24 #[.agg #[.int .i64 g.roots, nv, sv, .int .i64 g.edges, ov, iv], .int .i64 link] w fun e w' => e = .returned (.bool (idleB g link)) ∧ Below w.heap.size w w' := by
  have HG := Lib.hid (show ∀ W, Below w.heap.size w W → RGr W nv sv ov iv g from fun W hb => hG.below hb)
  have n1 := pts_len hs link g.nodes.length (Nat.le_refl _)
  have n2 := ends_len g link g.inner.length
  have n3 := hs.nodes
  have n4 := hs.inner
  have hpl : (ptsG g link).length ≤ 2000000 := by unfold ptsG; omega
  have hel : (endsG g link).length ≤ 2000000 := by unfold endsG; omega
  obtain ⟨AN, cN, AS, cS, AO, cO, AI, cI, rfl, rfl, rfl, rfl⟩ := hG.form
  obtain ⟨w0, hw0⟩ : ∃ w0, w0 = w.alloc (.cells #[.int .i64 g.roots, .slice AN g.nodes.length cN, .slice AS g.sites.length cS, .int .i64 g.edges, .slice AO g.outer.length cO, .slice AI g.inner.length cI] 30) := ⟨_, rfl⟩
  have hb0 : Below w.heap.size w w0 := by rw [hw0]; exact (Below.refl _ _).alloc (Nat.le_refl _) _
  have bx0 : w0.heap[w.heap.size]? = some (.cells #[.int .i64 g.roots, .slice AN g.nodes.length cN, .slice AS g.sites.length cS, .int .i64 g.edges, .slice AO g.outer.length cO, .slice AI g.inner.length cI] 30) := by rw [hw0]; exact heap_alloc_new _ _
  have hsz0 : w0.heap.size = w.heap.size + 1 := by rw [hw0]; simp
  have HX := Lib.hid (show ∀ W, Below w0.heap.size w0 W → W.heap[w.heap.size]? = some (.cells #[.int .i64 g.roots, .slice AN g.nodes.length cN, .slice AS g.sites.length cS, .int .i64 g.edges, .slice AO g.outer.length cO, .slice AI g.inner.length cI] 30) from fun W hW => (hW.block _ (by omega)).trans bx0)
  have HB0 := Lib.hid hb0
  have HW0 := Lib.hid hw0
  have H1 := Lib.hid (pointsOf_any g _ _ _ _ link w0 hs (HG.out w0 hb0))
  have HE := Lib.hid (idle_add g link)
  have x0 := cell_of_row _ _ 0 _ _ _ bx0
  have x1 := cell_of_row _ _ 1 _ _ _ bx0
  have x2 := cell_of_row _ _ 2 _ _ _ bx0
  have x3 := cell_of_row _ _ 3 _ _ _ bx0
  have x4 := cell_of_row _ _ 4 _ _ _ bx0
  have x5 := cell_of_row _ _ 5 _ _ _ bx0
  rw [hw0] at x0 x1 x2 x3 x4 x5
  clear hs hG hb0 bx0 hw0 n1 n2 n3 n4
  go_enter Tryd.func24, Tryd.ntmps24
  go_wp2_with fail
  rw [← HW0.out]
  refine H1.out.mono ?_
  rintro e w1 ⟨r, q, rfl, ho, ho2, hb1⟩
  obtain ⟨A1, c1, rfl, _⟩ := owns_form ho
  obtain ⟨A2, c2, rfl, _⟩ := owns_form ho2
  have HZ1 := Lib.hid (HB0.out.trans (hb1.mono HB0.out.size))
  clear x0 x1 x2 x3 x4 x5 ho ho2 hb1
  go_wp2_with fail
  go_ret
  exact ⟨by rw [← HE.out]; rfl, HZ1.out⟩

set_option maxRecDepth 100000 in
set_option maxHeartbeats 4000000 in
theorem specIdleLinks_any (sig : List Ct) (g : Gr) (nv sv ov iv gv : Value) (w : World) (hs : SmallG g) (hz : SmallS sig) (hS : RSl RCt 3 w gv sig) (hG : RGr w nv sv ov iv g) :
    Calls Tryd.prog 10 #[gv, .agg #[.int .i64 g.roots, nv, sv, .int .i64 g.edges, ov, iv]] w fun e w' => ∃ r, e = .returned (.tuple #[r, .bool (goodG sig g)]) ∧ w'.ownsRow w.heap.size 3 1 r (idleR sig g).length (ints (idleR sig g)) ∧ Below w.heap.size w w' := by
  have HG := Lib.hid (show ∀ W, Below w.heap.size w W → RGr W nv sv ov iv g from fun W hb => hG.below hb)
  have HS := Lib.hid (show ∀ W, Below w.heap.size w W → RSl RCt 3 W gv sig from fun W hb => hS.below RCt_keep hb)
  have HSM := Lib.hid hs
  have HSZ := Lib.hid hz
  have n4 := hs.outer
  have HRT := Lib.hid (show goodG sig g = true → idleR sig g = idlesTo g (nlk g) from fun h => by unfold idleR; rw [h]; rfl)
  have HRF := Lib.hid (show goodG sig g = false → idleR sig g = [] from fun h => by unfold idleR; rw [h]; rfl)
  obtain ⟨AN, cN, AS, cS, AO, cO, AI, cI, rfl, rfl, rfl, rfl⟩ := hG.form
  obtain ⟨AG, cG, rfl, _⟩ := hS.form
  obtain ⟨w0, hw0⟩ : ∃ w0, w0 = w.alloc (.cells #[.int .i64 g.roots, .slice AN g.nodes.length cN, .slice AS g.sites.length cS, .int .i64 g.edges, .slice AO g.outer.length cO, .slice AI g.inner.length cI] 30) := ⟨_, rfl⟩
  have hb0 : Below w.heap.size w w0 := by rw [hw0]; exact (Below.refl _ _).alloc (Nat.le_refl _) _
  have bx0 : w0.heap[w.heap.size]? = some (.cells #[.int .i64 g.roots, .slice AN g.nodes.length cN, .slice AS g.sites.length cS, .int .i64 g.edges, .slice AO g.outer.length cO, .slice AI g.inner.length cI] 30) := by rw [hw0]; exact heap_alloc_new _ _
  have hsz0 : w0.heap.size = w.heap.size + 1 := by rw [hw0]; simp
  have HX := Lib.hid (show ∀ W, Below w0.heap.size w0 W → W.heap[w.heap.size]? = some (.cells #[.int .i64 g.roots, .slice AN g.nodes.length cN, .slice AS g.sites.length cS, .int .i64 g.edges, .slice AO g.outer.length cO, .slice AI g.inner.length cI] 30) from fun W hW => (hW.block _ (by omega)).trans bx0)
  have HB0 := Lib.hid hb0
  have HW0 := Lib.hid hw0
  obtain ⟨w00, hw00⟩ : ∃ w00, w00 = w0.alloc (.cells #[] 3) := ⟨_, rfl⟩
  have hb00 : Below w0.heap.size w0 w00 := by rw [hw00]; exact (Below.refl _ _).alloc (Nat.le_refl _) _
  have hr00 : w00.ownsRow w0.heap.size 3 1 (.slice (some ⟨w.heap.size + 1, 0, none⟩) 0 0) 0 [] := by have h := made_rowG w0 3; rw [hsz0] at h ⊢; rw [hw00]; exact h
  have HB00 := Lib.hid hb00
  have HR00 := Lib.hid hr00
  have HW00 := Lib.hid (show w00 = (w.alloc (.cells #[.int .i64 g.roots, .slice AN g.nodes.length cN, .slice AS g.sites.length cS, .int .i64 g.edges, .slice AO g.outer.length cO, .slice AI g.inner.length cI] 30)).alloc (.cells #[] 3) from by rw [hw00, hw0])
  have HZ00 := Lib.hid (hb0.trans (hb00.mono hb0.size))
  have bx00 := HX.out w00 hb00
  have x0 := cell_of_row _ _ 0 _ _ _ bx00
  have x1 := cell_of_row _ _ 1 _ _ _ bx00
  have x2 := cell_of_row _ _ 2 _ _ _ bx00
  have x3 := cell_of_row _ _ 3 _ _ _ bx00
  have x4 := cell_of_row _ _ 4 _ _ _ bx00
  have x5 := cell_of_row _ _ 5 _ _ _ bx00
  rw [HW00.out] at x0 x1 x2 x3 x4 x5
  have H1 := Lib.hid (l2Good_any sig g _ _ _ _ _ w00 hs hz (HS.out w00 HZ00.out) (HG.out w00 HZ00.out))
  clear hs hG hS hz hb0 bx0 hw0 hb00 hr00 hw00 bx00
  cases hg : goodG sig g
  · have HR := Lib.hid (HRF.out hg)
    rw [hg] at H1
    go_enter Tryd.func10, Tryd.ntmps10
    go_wp2_with fail
    rw [← HW00.out]
    refine H1.out.mono ?_
    rintro e w1 ⟨rfl, hb1⟩
    clear x0 x1 x2 x3 x4 x5
    have HO := Lib.hid (owns_mono (owns_below HR00.out hb1 (Nat.le_refl _)) HB0.out.size)
    have HZ := Lib.hid (HZ00.out.trans (hb1.mono HZ00.out.size))
    clear hb1
    go_wp2_with fail
    go_ret2
    exact ⟨_, rfl, by rw [HR.out]; exact HO.out, HZ.out⟩
  · have HR := Lib.hid (HRT.out hg)
    obtain ⟨ge0, ge1⟩ := good_edges hg
    obtain ⟨n, hn⟩ : ∃ n, n = nlk g := ⟨_, rfl⟩
    have hne : g.edges + (g.outer.length : Int) = (n : Int) := by rw [hn]; unfold nlk; omega
    have hn0 : n ≤ 2000 := by omega
    have HNN := Lib.hid hn
    rw [hg] at H1
    go_enter Tryd.func10, Tryd.ntmps10
    go_wp2_with fail
    rw [← HW00.out]
    refine H1.out.mono ?_
    rintro e w1 ⟨rfl, hb1⟩
    clear x0 x1 x2 x3 x4 x5
    have HB1 := Lib.hid (HB00.out.trans (hb1.mono HB00.out.size))
    have HO1 := Lib.hid (owns_below HR00.out hb1 (Nat.le_refl _))
    clear hb1
    go_wp2_with fail
    go_loopw [6, 7] (fun u z wr => ∃ k : Nat, k ≤ n ∧ z = .int .i64 k ∧ wr.ownsRow w0.heap.size 3 1 u (idlesTo g k).length (ints (idlesTo g k)) ∧ Below w0.heap.size w0 wr)
      (fun _ z _ => n - (intOf z).toNat)
    case atStart => exact ⟨0, Nat.zero_le _, rfl, HO1.out, HB1.out⟩
    case round =>
      obtain ⟨k, hk, rfl, hown, hbel⟩ := hrel
      obtain ⟨AU, cU, rfl, hown⟩ := owns_form hown
      have hsz := hbel.size
      have hil := idles_len g k
      have bxr := HX.out wr hbel
      have HZR := Lib.hid (HB0.out.trans (hbel.mono HB0.out.size))
      have x0 := cell_of_row _ _ 0 _ _ _ bxr
      have x1 := cell_of_row _ _ 1 _ _ _ bxr
      have x2 := cell_of_row _ _ 2 _ _ _ bxr
      have x3 := cell_of_row _ _ 3 _ _ _ bxr
      have x4 := cell_of_row _ _ 4 _ _ _ bxr
      have x5 := cell_of_row _ _ 5 _ _ _ bxr
      have HO := Lib.hid hown
      have HBE := Lib.hid hbel
      clear hown hbel bxr
      by_cases hlt : k < n
      · have HI := Lib.hid (l2Idle_any g _ _ _ _ (k : Int) wr HSM.out (HG.out wr HZR.out))
        cases hid : idleB g (k : Int)
        · have HQ := Lib.hid (idles_no hid)
          rw [hid] at HI
          go_wp2_with fail
          refine HI.out.mono ?_
          rintro e w2 ⟨rfl, hb2⟩
          have HO2 := Lib.hid (owns_below HO.out hb2 (Nat.le_refl _))
          have HB2 := Lib.hid (HBE.out.trans (hb2.mono HBE.out.size))
          clear hb2 x0 x1 x2 x3 x4 x5
          go_wp2_with fail
          go_roundw
          case rel => exact ⟨k + 1, by omega, by go_num, by rw [HQ.out]; exact HO2.out, HB2.out⟩
          case measure => simp [intOf]; omega
        · have HQ := Lib.hid (idles_yes hid)
          rw [hid] at HI
          go_wp2_with fail
          refine HI.out.mono ?_
          rintro e w2 ⟨rfl, hb2⟩
          have HO2 := Lib.hid (owns_below HO.out hb2 (Nat.le_refl _))
          have HB2 := Lib.hid (HBE.out.trans (hb2.mono HBE.out.size))
          have hs2 := HB2.out.size
          clear hb2 x0 x1 x2 x3 x4 x5
          go_wp2_with (at_builtin; refine wpList_app el_intG rfl _ _ rfl w0.heap.size _ _ _ rfl HO2.out [.int .i64 (k : Int)] rfl rfl rfl (one1 rfl) (by omega) hs2 ?_; intro v3 w3 ho hk3 hm3)
          have HO3 := Lib.hid (show w3.ownsRow w0.heap.size 3 1 v3 (idlesTo g (k + 1)).length (ints (idlesTo g (k + 1))) from by
            rw [HQ.out, List.length_append, ints_app]
            exact ho)
          have HB3 := Lib.hid (below_kept HB2.out hk3 (fun q hq => (HO2.out.lt q hq).1) hs2)
          clear ho hk3 hm3
          go_wp2_with fail
          go_roundw
          case rel => exact ⟨k + 1, by omega, by go_num, HO3.out, HB3.out⟩
          case measure => simp [intOf]; omega
      · obtain rfl : k = n := by omega
        have HO2 := Lib.hid (owns_mono HO.out HB0.out.size)
        go_wp2_with fail
        go_ret2
        exact ⟨_, rfl, by rw [HR.out, ← HNN.out]; exact HO2.out, HZR.out⟩

set_option maxRecDepth 100000 in
set_option maxHeartbeats 4000000 in
theorem implIdleLinks_any (sig : List Ct) (g : Gr) (nv sv ov iv gv : Value) (w : World) (hs : SmallG g) (hz : SmallS sig) (hcap : CapOk gv) (hS : RSl RCt 3 w gv sig) (hG : RGr w nv sv ov iv g) :
    Calls Tryd.prog 9 #[gv, .agg #[.int .i64 g.roots, nv, sv, .int .i64 g.edges, ov, iv]] w fun e w' => ∃ r, e = .returned (.tuple #[r, .bool (goodG sig g)]) ∧ w'.ownsRow w.heap.size 3 1 r (idleR sig g).length (ints (idleR sig g)) ∧ Below w.heap.size w w' := by
  have HG := Lib.hid (show ∀ W, Below w.heap.size w W → RGr W nv sv ov iv g from fun W hb => hG.below hb)
  have HS := Lib.hid (show ∀ W, Below w.heap.size w W → RSl RCt 3 W gv sig from fun W hb => hS.below RCt_keep hb)
  have HSM := Lib.hid hs
  have HSZ := Lib.hid hz
  have n4 := hs.outer
  have HRT := Lib.hid (show goodG sig g = true → idleR sig g = idlesTo g (nlk g) from fun h => by unfold idleR; rw [h]; rfl)
  have HRF := Lib.hid (show goodG sig g = false → idleR sig g = [] from fun h => by unfold idleR; rw [h]; rfl)
  obtain ⟨AN, cN, AS, cS, AO, cO, AI, cI, rfl, rfl, rfl, rfl⟩ := hG.form
  obtain ⟨AG, cG, rfl, _⟩ := hS.form
  obtain ⟨w0, hw0⟩ : ∃ w0, w0 = w.alloc (.cells #[.int .i64 g.roots, .slice AN g.nodes.length cN, .slice AS g.sites.length cS, .int .i64 g.edges, .slice AO g.outer.length cO, .slice AI g.inner.length cI] 30) := ⟨_, rfl⟩
  have hb0 : Below w.heap.size w w0 := by rw [hw0]; exact (Below.refl _ _).alloc (Nat.le_refl _) _
  have bx0 : w0.heap[w.heap.size]? = some (.cells #[.int .i64 g.roots, .slice AN g.nodes.length cN, .slice AS g.sites.length cS, .int .i64 g.edges, .slice AO g.outer.length cO, .slice AI g.inner.length cI] 30) := by rw [hw0]; exact heap_alloc_new _ _
  have hsz0 : w0.heap.size = w.heap.size + 1 := by rw [hw0]; simp
  have HX := Lib.hid (show ∀ W, Below w0.heap.size w0 W → W.heap[w.heap.size]? = some (.cells #[.int .i64 g.roots, .slice AN g.nodes.length cN, .slice AS g.sites.length cS, .int .i64 g.edges, .slice AO g.outer.length cO, .slice AI g.inner.length cI] 30) from fun W hW => (hW.block _ (by omega)).trans bx0)
  have HB0 := Lib.hid hb0
  have HW0 := Lib.hid hw0
  have x0 := cell_of_row _ _ 0 _ _ _ bx0
  have x1 := cell_of_row _ _ 1 _ _ _ bx0
  have x2 := cell_of_row _ _ 2 _ _ _ bx0
  have x3 := cell_of_row _ _ 3 _ _ _ bx0
  have x4 := cell_of_row _ _ 4 _ _ _ bx0
  have x5 := cell_of_row _ _ 5 _ _ _ bx0
  rw [hw0] at x0 x1 x2 x3 x4 x5
  have H1 := Lib.hid (isBigraph_any sig g _ _ _ _ _ w0 hs hz hcap (HS.out w0 hb0) (HG.out w0 hb0))
  clear hs hG hS hz hcap hb0 bx0 hw0
  cases hg : goodG sig g
  · have HR := Lib.hid (HRF.out hg)
    rw [hg] at H1
    go_enter Tryd.func9, Tryd.ntmps9
    go_wp2_with fail
    rw [← HW0.out]
    refine H1.out.mono ?_
    rintro e w1 ⟨rfl, hb1⟩
    clear x0 x1 x2 x3 x4 x5
    have HZ := Lib.hid (HB0.out.trans (hb1.mono HB0.out.size))
    clear hb1
    go_wp2_with fail
    go_ret2
    exact ⟨_, rfl, by rw [HR.out]; exact none_row, HZ.out⟩
  · have HR := Lib.hid (HRT.out hg)
    obtain ⟨ge0, ge1⟩ := good_edges hg
    obtain ⟨n, hn⟩ : ∃ n, n = nlk g := ⟨_, rfl⟩
    have hne : g.edges + (g.outer.length : Int) = (n : Int) := by rw [hn]; unfold nlk; omega
    have hn0 : n ≤ 2000 := by omega
    have HNN := Lib.hid hn
    rw [hg] at H1
    go_enter Tryd.func9, Tryd.ntmps9
    go_wp2_with fail
    rw [← HW0.out]
    refine H1.out.mono ?_
    rintro e w1 ⟨rfl, hb1⟩
    clear x0 x1 x2 x3 x4 x5
    have HB1 := Lib.hid hb1
    have bx1 := HX.out (w1.alloc (.cells #[] 3)) (hb1.alloc hb1.size _)
    have x0 := cell_of_row _ _ 0 _ _ _ bx1
    have x1 := cell_of_row _ _ 1 _ _ _ bx1
    have x2 := cell_of_row _ _ 2 _ _ _ bx1
    have x3 := cell_of_row _ _ 3 _ _ _ bx1
    have x4 := cell_of_row _ _ 4 _ _ _ bx1
    have x5 := cell_of_row _ _ 5 _ _ _ bx1
    clear hb1 bx1
    go_wp2_with fail
    go_loopw [6, 19] (fun u z wr => ∃ k : Nat, k ≤ n ∧ z = .int .i64 k ∧ wr.ownsRow w0.heap.size 3 1 u (idlesTo g k).length (ints (idlesTo g k)) ∧ Below w0.heap.size w0 wr)
      (fun _ z _ => n - (intOf z).toNat)
    case atStart => exact ⟨0, Nat.zero_le _, rfl, owns_mono (made_rowG w1 3) HB1.out.size, HB1.out.alloc HB1.out.size _⟩
    case round =>
      obtain ⟨k, hk, rfl, hown, hbel⟩ := hrel
      obtain ⟨AU, cU, rfl, hown⟩ := owns_form hown
      have hsz := hbel.size
      have hil := idles_len g k
      have bxr := HX.out wr hbel
      have HZR := Lib.hid (HB0.out.trans (hbel.mono HB0.out.size))
      clear x0 x1 x2 x3 x4 x5
      have x0 := cell_of_row _ _ 0 _ _ _ bxr
      have x1 := cell_of_row _ _ 1 _ _ _ bxr
      have x2 := cell_of_row _ _ 2 _ _ _ bxr
      have x3 := cell_of_row _ _ 3 _ _ _ bxr
      have x4 := cell_of_row _ _ 4 _ _ _ bxr
      have x5 := cell_of_row _ _ 5 _ _ _ bxr
      have HO := Lib.hid hown
      have HBE := Lib.hid hbel
      clear hown hbel bxr
      by_cases hlt : k < n
      · have HI := Lib.hid (isIdle_any g _ _ _ _ (k : Int) wr HSM.out (HG.out wr HZR.out))
        cases hid : idleB g (k : Int)
        · have HQ := Lib.hid (idles_no hid)
          rw [hid] at HI
          go_wp2_with fail
          refine HI.out.mono ?_
          rintro e w2 ⟨rfl, hb2⟩
          have HO2 := Lib.hid (owns_below HO.out hb2 (Nat.le_refl _))
          have HB2 := Lib.hid (HBE.out.trans (hb2.mono HBE.out.size))
          clear hb2 x0 x1 x2 x3 x4 x5
          go_wp2_with fail
          go_roundw
          case rel => exact ⟨k + 1, by omega, by go_num, by rw [HQ.out]; exact HO2.out, HB2.out⟩
          case measure => simp [intOf]; omega
        · have HQ := Lib.hid (idles_yes hid)
          rw [hid] at HI
          go_wp2_with fail
          refine HI.out.mono ?_
          rintro e w2 ⟨rfl, hb2⟩
          have HO2 := Lib.hid (owns_below HO.out hb2 (Nat.le_refl _))
          have HB2 := Lib.hid (HBE.out.trans (hb2.mono HBE.out.size))
          have hs2 := HB2.out.size
          clear hb2 x0 x1 x2 x3 x4 x5
          go_wp2_with (at_builtin; refine wpList_app el_intG rfl _ _ rfl w0.heap.size _ _ _ rfl HO2.out [.int .i64 (k : Int)] rfl rfl rfl (one1 rfl) (by omega) hs2 ?_; intro v3 w3 ho hk3 hm3)
          have HO3 := Lib.hid (show w3.ownsRow w0.heap.size 3 1 v3 (idlesTo g (k + 1)).length (ints (idlesTo g (k + 1))) from by
            rw [HQ.out, List.length_append, ints_app]
            exact ho)
          have HB3 := Lib.hid (below_kept HB2.out hk3 (fun q hq => (HO2.out.lt q hq).1) hs2)
          clear ho hk3 hm3
          go_wp2_with fail
          go_roundw
          case rel => exact ⟨k + 1, by omega, by go_num, HO3.out, HB3.out⟩
          case measure => simp [intOf]; omega
      · obtain rfl : k = n := by omega
        have HO2 := Lib.hid (owns_mono HO.out HB0.out.size)
        go_wp2_with fail
        go_ret2
        exact ⟨_, rfl, by rw [HR.out, ← HNN.out]; exact HO2.out, HZR.out⟩

set_option maxRecDepth 100000 in
set_option maxHeartbeats 4000000 in
theorem specInnerNames_any (sig : List Ct) (g : Gr) (nv sv ov iv gv : Value) (w : World) (hs : SmallG g) (hz : SmallS sig) (hS : RSl RCt 3 w gv sig) (hG : RGr w nv sv ov iv g) :
    Calls Tryd.prog 12 #[gv, .agg #[.int .i64 g.roots, nv, sv, .int .i64 g.edges, ov, iv]] w fun e w' => ∃ r, e = .returned (.tuple #[r, .bool (goodG sig g)]) ∧ w'.ownsRow w.heap.size 9 1 r (innR sig g).length (strs (innR sig g)) ∧ Below w.heap.size w w' := by
  have HG := Lib.hid (show ∀ W, Below w.heap.size w W → RGr W nv sv ov iv g from fun W hb => hG.below hb)
  have HS := Lib.hid (show ∀ W, Below w.heap.size w W → RSl RCt 3 W gv sig from fun W hb => hS.below RCt_keep hb)
  have HSM := Lib.hid hs
  have HRT := Lib.hid (show goodG sig g = true → innR sig g = innerN g from fun h => by unfold innR; rw [h]; rfl)
  have HRF := Lib.hid (show goodG sig g = false → innR sig g = [] from fun h => by unfold innR; rw [h]; rfl)
  obtain ⟨AN, cN, AS, cS, AO, cO, AI, cI, rfl, rfl, rfl, rfl⟩ := hG.form
  obtain ⟨AG, cG, rfl, _⟩ := hS.form
  obtain ⟨w0, hw0⟩ : ∃ w0, w0 = w.alloc (.cells #[.int .i64 g.roots, .slice AN g.nodes.length cN, .slice AS g.sites.length cS, .int .i64 g.edges, .slice AO g.outer.length cO, .slice AI g.inner.length cI] 30) := ⟨_, rfl⟩
  have hb0 : Below w.heap.size w w0 := by rw [hw0]; exact (Below.refl _ _).alloc (Nat.le_refl _) _
  have bx0 : w0.heap[w.heap.size]? = some (.cells #[.int .i64 g.roots, .slice AN g.nodes.length cN, .slice AS g.sites.length cS, .int .i64 g.edges, .slice AO g.outer.length cO, .slice AI g.inner.length cI] 30) := by rw [hw0]; exact heap_alloc_new _ _
  have hsz0 : w0.heap.size = w.heap.size + 1 := by rw [hw0]; simp
  have HX := Lib.hid (show ∀ W, Below w0.heap.size w0 W → W.heap[w.heap.size]? = some (.cells #[.int .i64 g.roots, .slice AN g.nodes.length cN, .slice AS g.sites.length cS, .int .i64 g.edges, .slice AO g.outer.length cO, .slice AI g.inner.length cI] 30) from fun W hW => (hW.block _ (by omega)).trans bx0)
  have HB0 := Lib.hid hb0
  have HW0 := Lib.hid hw0
  have x0 := cell_of_row _ _ 0 _ _ _ bx0
  have x1 := cell_of_row _ _ 1 _ _ _ bx0
  have x2 := cell_of_row _ _ 2 _ _ _ bx0
  have x3 := cell_of_row _ _ 3 _ _ _ bx0
  have x4 := cell_of_row _ _ 4 _ _ _ bx0
  have x5 := cell_of_row _ _ 5 _ _ _ bx0
  rw [hw0] at x0 x1 x2 x3 x4 x5
  have H1 := Lib.hid (l2Good_any sig g _ _ _ _ _ w0 hs hz (HS.out w0 hb0) (HG.out w0 hb0))
  clear hs hG hS hz hb0 bx0 hw0
  cases hg : goodG sig g
  · have HR := Lib.hid (HRF.out hg)
    rw [hg] at H1
    go_enter Tryd.func12, Tryd.ntmps12
    go_wp2_with fail
    rw [← HW0.out]
    refine H1.out.mono ?_
    rintro e w1 ⟨rfl, hb1⟩
    have HZ := Lib.hid (HB0.out.trans (hb1.mono HB0.out.size))
    clear x0 x1 x2 x3 x4 x5 hb1
    go_wp2_with fail
    go_ret2
    exact ⟨_, rfl, by rw [HR.out]; exact owns_mono (made_rowG w1 9) HZ.out.size, HZ.out.alloc HZ.out.size _⟩
  · have HR := Lib.hid (HRT.out hg)
    rw [hg] at H1
    go_enter Tryd.func12, Tryd.ntmps12
    go_wp2_with fail
    rw [← HW0.out]
    refine H1.out.mono ?_
    rintro e w1 ⟨rfl, hb1⟩
    have HZ := Lib.hid (HB0.out.trans (hb1.mono HB0.out.size))
    have bx1 := HX.out w1 hb1
    clear x0 x1 x2 x3 x4 x5 hb1
    have x0 := cell_of_row _ _ 0 _ _ _ bx1
    have x1 := cell_of_row _ _ 1 _ _ _ bx1
    have x2 := cell_of_row _ _ 2 _ _ _ bx1
    have x3 := cell_of_row _ _ 3 _ _ _ bx1
    have x4 := cell_of_row _ _ 4 _ _ _ bx1
    have x5 := cell_of_row _ _ 5 _ _ _ bx1
    have H2 := Lib.hid (l2Inner_any g _ _ _ _ w1 HSM.out (HG.out w1 HZ.out))
    clear bx1
    go_wp2_with fail
    refine H2.out.mono ?_
    rintro e w2 ⟨r, rfl, ho, hb2⟩
    have HO := Lib.hid (owns_mono ho HZ.out.size)
    have HZ2 := Lib.hid (HZ.out.trans (hb2.mono HZ.out.size))
    have HLN := Lib.hid (innerN_len g)
    clear x0 x1 x2 x3 x4 x5 ho hb2
    go_wp2_with fail
    go_ret2
    exact ⟨_, rfl, by rw [HR.out, HLN.out]; exact HO.out, HZ2.out⟩

set_option maxRecDepth 100000 in
set_option maxHeartbeats 4000000 in
theorem implInnerNames_any (sig : List Ct) (g : Gr) (nv sv ov iv gv : Value) (w : World) (hs : SmallG g) (hz : SmallS sig) (hcap : CapOk gv) (hS : RSl RCt 3 w gv sig) (hG : RGr w nv sv ov iv g) :
    Calls Tryd.prog 11 #[gv, .agg #[.int .i64 g.roots, nv, sv, .int .i64 g.edges, ov, iv]] w fun e w' => ∃ r, e = .returned (.tuple #[r, .bool (goodG sig g)]) ∧ w'.ownsRow w.heap.size 9 1 r (innR sig g).length (strs (innR sig g)) ∧ Below w.heap.size w w' := by
  have HG := Lib.hid (show ∀ W, Below w.heap.size w W → RGr W nv sv ov iv g from fun W hb => hG.below hb)
  have HS := Lib.hid (show ∀ W, Below w.heap.size w W → RSl RCt 3 W gv sig from fun W hb => hS.below RCt_keep hb)
  have HSM := Lib.hid hs
  have HRT := Lib.hid (show goodG sig g = true → innR sig g = innerN g from fun h => by unfold innR; rw [h]; rfl)
  have HRF := Lib.hid (show goodG sig g = false → innR sig g = [] from fun h => by unfold innR; rw [h]; rfl)
  obtain ⟨AN, cN, AS, cS, AO, cO, AI, cI, rfl, rfl, rfl, rfl⟩ := hG.form
  obtain ⟨AG, cG, rfl, _⟩ := hS.form
  obtain ⟨w0, hw0⟩ : ∃ w0, w0 = w.alloc (.cells #[.int .i64 g.roots, .slice AN g.nodes.length cN, .slice AS g.sites.length cS, .int .i64 g.edges, .slice AO g.outer.length cO, .slice AI g.inner.length cI] 30) := ⟨_, rfl⟩
  have hb0 : Below w.heap.size w w0 := by rw [hw0]; exact (Below.refl _ _).alloc (Nat.le_refl _) _
  have bx0 : w0.heap[w.heap.size]? = some (.cells #[.int .i64 g.roots, .slice AN g.nodes.length cN, .slice AS g.sites.length cS, .int .i64 g.edges, .slice AO g.outer.length cO, .slice AI g.inner.length cI] 30) := by rw [hw0]; exact heap_alloc_new _ _
  have hsz0 : w0.heap.size = w.heap.size + 1 := by rw [hw0]; simp
  have HX := Lib.hid (show ∀ W, Below w0.heap.size w0 W → W.heap[w.heap.size]? = some (.cells #[.int .i64 g.roots, .slice AN g.nodes.length cN, .slice AS g.sites.length cS, .int .i64 g.edges, .slice AO g.outer.length cO, .slice AI g.inner.length cI] 30) from fun W hW => (hW.block _ (by omega)).trans bx0)
  have HB0 := Lib.hid hb0
  have HW0 := Lib.hid hw0
  have x0 := cell_of_row _ _ 0 _ _ _ bx0
  have x1 := cell_of_row _ _ 1 _ _ _ bx0
  have x2 := cell_of_row _ _ 2 _ _ _ bx0
  have x3 := cell_of_row _ _ 3 _ _ _ bx0
  have x4 := cell_of_row _ _ 4 _ _ _ bx0
  have x5 := cell_of_row _ _ 5 _ _ _ bx0
  rw [hw0] at x0 x1 x2 x3 x4 x5
  have H1 := Lib.hid (isBigraph_any sig g _ _ _ _ _ w0 hs hz hcap (HS.out w0 hb0) (HG.out w0 hb0))
  clear hs hG hS hz hcap hb0 bx0 hw0
  cases hg : goodG sig g
  · have HR := Lib.hid (HRF.out hg)
    rw [hg] at H1
    go_enter Tryd.func11, Tryd.ntmps11
    go_wp2_with fail
    rw [← HW0.out]
    refine H1.out.mono ?_
    rintro e w1 ⟨rfl, hb1⟩
    have HZ := Lib.hid (HB0.out.trans (hb1.mono HB0.out.size))
    clear x0 x1 x2 x3 x4 x5 hb1
    go_wp2_with fail
    go_ret2
    exact ⟨_, rfl, by rw [HR.out]; exact none_row, HZ.out⟩
  · have HR := Lib.hid (HRT.out hg)
    rw [hg] at H1
    go_enter Tryd.func11, Tryd.ntmps11
    go_wp2_with fail
    rw [← HW0.out]
    refine H1.out.mono ?_
    rintro e w1 ⟨rfl, hb1⟩
    have HZ := Lib.hid (HB0.out.trans (hb1.mono HB0.out.size))
    have bx1 := HX.out w1 hb1
    clear x0 x1 x2 x3 x4 x5 hb1
    have x0 := cell_of_row _ _ 0 _ _ _ bx1
    have x1 := cell_of_row _ _ 1 _ _ _ bx1
    have x2 := cell_of_row _ _ 2 _ _ _ bx1
    have x3 := cell_of_row _ _ 3 _ _ _ bx1
    have x4 := cell_of_row _ _ 4 _ _ _ bx1
    have x5 := cell_of_row _ _ 5 _ _ _ bx1
    have H2 := Lib.hid (innerNames_any g _ _ _ _ w1 HSM.out (HG.out w1 HZ.out))
    clear bx1
    go_wp2_with fail
    refine H2.out.mono ?_
    rintro e w2 ⟨r, rfl, ho, hb2⟩
    have HO := Lib.hid (owns_mono ho HZ.out.size)
    have HZ2 := Lib.hid (HZ.out.trans (hb2.mono HZ.out.size))
    have HLN := Lib.hid (innerN_len g)
    clear x0 x1 x2 x3 x4 x5 ho hb2
    go_wp2_with fail
    go_ret2
    exact ⟨_, rfl, by rw [HR.out, HLN.out]; exact HO.out, HZ2.out⟩

end Go.Proofs.YtmnnbgciakigfaaDoor
