/- The program's parts of nodes that share links: walked. -/
import Derived.Test.YtmnnbgciakigfaaDoorProg
import Derived.Test.YtmnnbgciakigfaaDoorGPartS
import Derived.Test.YtmnnbgciakigfaaDoorGOwn
set_option linter.unusedVariables false
namespace Go.Proofs.YtmnnbgciakigfaaDoor
open Go.RowKit Go.Sort

theorem stepI_len (m : Nat → Nat → Bool) (i : Nat) (x : List Int × Bool) (k : Nat) : (stepI m i x k).1.length = x.1.length := by
  unfold stepI
  split
  · rw [List.length_set]
  · rfl
theorem foldI_len (m : Nat → Nat → Bool) (i : Nat) : ∀ (ks : List Nat) (x : List Int × Bool), (ks.foldl (stepI m i) x).1.length = x.1.length
  | [], _ => rfl
  | k :: ks, x => by rw [List.foldl_cons, foldI_len m i ks, stepI_len]
theorem rowI_len (n : Nat) (m : Nat → Nat → Bool) : ∀ (is : List Nat) (x : List Int × Bool), (is.foldl (rowI n m) x).1.length = x.1.length
  | [], _ => rfl
  | i :: is, x => by rw [List.foldl_cons, rowI_len n m is]; exact foldI_len m i _ x
theorem meet_any (g : Gr) (i k : Nat) : (anyR (nodA g i).2.2.length fun j => hasI (nodA g k).2.2 ((nodA g i).2.2.getD j 0)) = meetB g i k := by
  cases h : anyR (nodA g i).2.2.length fun j => hasI (nodA g k).2.2 ((nodA g i).2.2.getD j 0)
  · unfold anyR at h
    rw [List.any_eq_false] at h
    exact (meet_no fun j hj => by have := h j (List.mem_range.2 hj); simpa using this).symm
  · unfold anyR at h
    rw [List.any_eq_true] at h
    obtain ⟨j, hj, hh⟩ := h
    exact (meet_yes (List.mem_range.1 hj) hh).symm

/-- The sum of the numbers in a row, read off the memory: a loop's measure. -/
def totA (w : World) (A : Option Addr) (n : Nat) : Nat := match A with
  | some a => ((List.range n).map fun j => match w.cell? (a.add j) with | some (.int _ x) => x.toNat | _ => 0).sum
  | none => 0
def bitOf : Value → Bool
  | .bool b => b
  | _ => false
theorem tot_range (o : List Int) : ((List.range o.length).map fun j => (o.getD j 0).toNat) = o.map Int.toNat := by
  apply List.ext_getElem
  · simp
  · intro i h1 h2
    simp at h1
    simp [List.getD, h1]
theorem totA_of {w : World} {B n c : Nat} {e : TypeId} {A : Option Addr} {o : List Int} (h : w.ownsRow B e 1 (.slice A n c) n (ints o)) (hl : o.length = n) : totA w A n = totI o := by
  subst hl
  rcases h.2 with ⟨e1, e2⟩ | ⟨g, cap, cur, e1, _⟩
  · have : o = [] := List.eq_nil_of_length_eq_zero e2
    subst this
    simp only [Value.slice.injEq] at e1
    obtain ⟨rfl, _, _⟩ := e1
    rfl
  · cases e1
    have hd : totA w (some ⟨g, 0, none⟩) o.length = ((List.range o.length).map fun j => match w.cell? ((⟨g, 0, none⟩ : Addr).add j) with | some (.int _ x) => x.toNat | _ => 0).sum := rfl
    rw [hd]
    unfold totI
    rw [← tot_range]
    congr 1
    apply List.map_congr_left
    intro j hj
    have hj := List.mem_range.1 hj
    have e3 : (⟨g, 0, none⟩ : Addr).add j = ⟨g, j, none⟩ := by simp [Addr.add, eq_comm]
    rw [e3, int_cell h rfl hj]

set_option maxHeartbeats 1000000 in
theorem linkParts1_any (l : Int) (pb : Nat) (A : Option Addr) (d : Nat) (lk : List Int) (w : World) (hn : lk.length ≤ 1000) (hc : w.cell? ⟨pb, 2, none⟩ = some (.slice A lk.length d)) (hA : Cells w A (ints lk)) :
    Calls Tryd.prog 20 #[.int .i64 l, .pointer (some ⟨pb, 0, none⟩)] w fun e w' => e = .returned (.bool (hasI lk l)) ∧ Below w.heap.size w w' := by
  have H := Lib.hid (contains_any A d lk l w (by omega) hA)
  clear hA
  go_enter Tryd.func20, Tryd.ntmps20
  go_wp2_with ((with_reducible refine H.out.mono ?_); rintro e w1 ⟨rfl, rfl⟩)
  go_ret
  exact ⟨rfl, Below.refl _ _⟩

set_option maxRecDepth 100000 in
set_option maxHeartbeats 16000000 in
theorem implLinkParts_any (sig : List Ct) (g : Gr) (nv sv ov iv gv : Value) (w : World) (hs : SmallG g) (hz : SmallS sig) (hcap : CapOk gv) (hS : RSl RCt 3 w gv sig) (hG : RGr w nv sv ov iv g) :
    Calls Tryd.prog 6 #[gv, .agg #[.int .i64 g.roots, nv, sv, .int .i64 g.edges, ov, iv]] w fun e w' => ∃ r, e = .returned (.tuple #[r, .bool (goodG sig g)]) ∧ w'.ownsRow w.heap.size 3 1 r (partR sig g).length (ints (partR sig g)) ∧ Below w.heap.size w w' := by
  have HG := Lib.hid (show ∀ W, Below w.heap.size w W → RGr W nv sv ov iv g from fun W hb => hG.below hb)
  have HS := Lib.hid (show ∀ W, Below w.heap.size w W → RSl RCt 3 W gv sig from fun W hb => hS.below RCt_keep hb)
  have HSM := Lib.hid hs
  have n1 := hs.nodes
  have HRT := Lib.hid (show goodG sig g = true → partR sig g = partG g from fun h => by unfold partR; rw [h]; rfl)
  have HRF := Lib.hid (show goodG sig g = false → partR sig g = [] from fun h => by unfold partR; rw [h]; rfl)
  obtain ⟨AN, cN, AS, cS, AO, cO, AI, cI, rfl, rfl, rfl, rfl⟩ := hG.form
  obtain ⟨AG, cG, rfl, _⟩ := hS.form
  have HN := Lib.hid hG.n
  obtain ⟨w0, hw0⟩ : ∃ w0, w0 = w.alloc (.cells #[.int .i64 g.roots, .slice AN g.nodes.length cN, .slice AS g.sites.length cS, .int .i64 g.edges, .slice AO g.outer.length cO, .slice AI g.inner.length cI] 30) := ⟨_, rfl⟩
  have hb0 : Below w.heap.size w w0 := by rw [hw0]; exact (Below.refl _ _).alloc (Nat.le_refl _) _
  have bx0 : w0.heap[w.heap.size]? = some (.cells #[.int .i64 g.roots, .slice AN g.nodes.length cN, .slice AS g.sites.length cS, .int .i64 g.edges, .slice AO g.outer.length cO, .slice AI g.inner.length cI] 30) := by rw [hw0]; exact heap_alloc_new _ _
  have hsz0 : w0.heap.size = w.heap.size + 1 := by rw [hw0]; simp
  have HX := Lib.hid (show ∀ W, Below w0.heap.size w0 W → W.heap[w.heap.size]? = some (.cells #[.int .i64 g.roots, .slice AN g.nodes.length cN, .slice AS g.sites.length cS, .int .i64 g.edges, .slice AO g.outer.length cO, .slice AI g.inner.length cI] 30) from fun W hW => (hW.block _ (by omega)).trans bx0)
  have HB0 := Lib.hid hb0
  have HW0 := Lib.hid hw0
  have x0 := cell_of_row _ _ 0 _ _ _ bx0
  have x1 := cell_of_row _ _ 1 _ _ _ bx0
  have x2 := cell_of_row _ _ 2 _ _ _ bx0
  have x3 := cell_of_row _ _ 3 _ _ _ bx0
  have x4 := cell_of_row _ _ 4 _ _ _ bx0
  have x5 := cell_of_row _ _ 5 _ _ _ bx0
  rw [hw0] at x0 x1 x2 x3 x4 x5
  have H1 := Lib.hid (isBigraph_any sig g _ _ _ _ _ w0 hs hz hcap (HS.out w0 hb0) (HG.out w0 hb0))
  clear hs hG hS hz hcap hb0 bx0 hw0
  cases hg : goodG sig g
  · have HR := Lib.hid (HRF.out hg)
    rw [hg] at H1
    go_enter Tryd.func6, Tryd.ntmps6
    go_wp2_with fail
    rw [← HW0.out]
    refine H1.out.mono ?_
    rintro e w1 ⟨rfl, hb1⟩
    clear x0 x1 x2 x3 x4 x5
    have HZ := Lib.hid (HB0.out.trans (hb1.mono HB0.out.size))
    clear hb1
    go_wp2_with fail
    go_ret2
    exact ⟨_, rfl, by rw [HR.out]; exact none_row, HZ.out⟩
  · have HR := Lib.hid (HRT.out hg)
    obtain ⟨n, hn⟩ : ∃ n, n = g.nodes.length := ⟨_, rfl⟩
    obtain ⟨m, hm⟩ : ∃ m, m = meetB g := ⟨_, rfl⟩
    have HPG := Lib.hid (show partG g = partS n m n from by rw [hn, hm]; rfl)
    have HSY := Lib.hid (show ∀ i k, m i k = m k i from fun i k => by rw [hm]; exact meet_sym g i k)
    have HMM := Lib.hid (fun i k => show m i k = meetB g i k from by rw [hm])
    clear hm
    rw [hg] at H1
    go_enter Tryd.func6, Tryd.ntmps6
    go_wp2_with fail
    rw [← HW0.out]
    refine H1.out.mono ?_
    rintro e w1 ⟨rfl, hb1⟩
    clear x0 x1 x2 x3 x4 x5
    have HB1 := Lib.hid (hb1.alloc hb1.size (.cells #[] 3))
    have HO1 := Lib.hid (owns_mono (made_rowG w1 3) hb1.size)
    have bx1 := HX.out (w1.alloc (.cells #[] 3)) HB1.out
    have x0 := cell_of_row _ _ 0 _ _ _ bx1
    have x1 := cell_of_row _ _ 1 _ _ _ bx1
    have x2 := cell_of_row _ _ 2 _ _ _ bx1
    have x3 := cell_of_row _ _ 3 _ _ _ bx1
    have x4 := cell_of_row _ _ 4 _ _ _ bx1
    have x5 := cell_of_row _ _ 5 _ _ _ bx1
    clear hb1 bx1
    rw [← hn] at x1
    have n2 : n ≤ 1000 := by omega
    have HNL := Lib.hid hn
    clear hn
    go_wp2_with fail
    go_loopw [6, 21] (fun u z wr => ∃ k : Nat, k ≤ n ∧ z = .int .i64 k ∧ wr.ownsRow w0.heap.size 3 1 u k (ints ((List.range k).map fun i : Nat => (i : Int))) ∧ Below w0.heap.size w0 wr)
      (fun _ z _ => n - (intOf z).toNat)
    case atStart => exact ⟨0, Nat.zero_le _, rfl, HO1.out, HB1.out⟩
    case round =>
      clear x0 x1 x2 x3 x4 x5 HO1 HB1
      obtain ⟨k, hk, rfl, hown, hbel⟩ := hrel
      obtain ⟨AU, cU, rfl, hown⟩ := owns_form hown
      have hsz := hbel.size
      have HO := Lib.hid hown
      have HBE := Lib.hid hbel
      have bxr := HX.out wr hbel
      clear hown hbel
      by_cases hlt : k < n
      · clear bxr
        go_wp2_with (at_builtin; refine wpList_app el_intG rfl _ _ rfl w0.heap.size _ _ _ rfl HO.out [.int .i64 (k : Int)] rfl rfl rfl (one1 rfl) (by omega) hsz ?_; intro v3 w3 ho hk3 hm3)
        have HO3 := Lib.hid (show w3.ownsRow w0.heap.size 3 1 v3 (k + 1) (ints ((List.range (k + 1)).map fun i : Nat => (i : Int))) from by
          rw [List.range_succ, List.map_append, List.map_cons, List.map_nil, ints_app]
          exact ho)
        have HB3 := Lib.hid (below_kept HBE.out hk3 (fun q hq => (HO.out.lt q hq).1) hsz)
        clear ho hk3 hm3
        go_wp2_with fail
        go_roundw
        case rel => exact ⟨k + 1, by omega, by go_num, HO3.out, HB3.out⟩
        case measure => simp [intOf]; omega
      · obtain rfl : k = n := by omega
        clear bxr
        go_wp2_with fail
        go_loopw [8] (fun z wx => ∃ (ch : Bool) (o : List Int), z = .bool ch ∧ wx.ownsRow w0.heap.size 3 1 (.slice AU k cU) k (ints o) ∧ OKP k m o ∧ (∀ i, i < k → o.getD i 0 ≤ (i : Int)) ∧ (ch = false → ∀ a b, a < k → b < k → m a b = true → o.getD b 0 ≤ o.getD a 0) ∧ Below w0.heap.size w0 wx)
          (fun z wx => if bitOf z then 1 + totA wx AU k else 0)
        case atStart => exact ⟨true, _, rfl, HO.out, start_ok, fun i hi => by simp [List.getD, hi], fun h => (nomatch h), HBE.out⟩
        case round =>
          clear HO HBE hsz
          obtain ⟨ch, o, rfl, hown, hok, hle, hfx, hbel⟩ := hrel
          have hsz := hbel.size
          have HO := Lib.hid hown
          have HOK := Lib.hid hok
          have HLE := Lib.hid hle
          have HFX := Lib.hid hfx
          have HBE := Lib.hid hbel
          have HT0 := Lib.hid (totA_of hown hok.len)
          have bxr := HX.out wr hbel
          have x0 := cell_of_row _ _ 0 _ _ _ bxr
          have x1 := cell_of_row _ _ 1 _ _ _ bxr
          have x2 := cell_of_row _ _ 2 _ _ _ bxr
          have x3 := cell_of_row _ _ 3 _ _ _ bxr
          have x4 := cell_of_row _ _ 4 _ _ _ bxr
          have x5 := cell_of_row _ _ 5 _ _ _ bxr
          rw [← HNL.out] at x1
          clear hown hok hle hfx hbel bxr
          cases ch
          · have HEQ := Lib.hid (part_same HSY.out HOK.out HLE.out (HFX.out rfl))
            have HO2 := Lib.hid (owns_mono HO.out HB0.out.size)
            have HZR := Lib.hid (HB0.out.trans (HBE.out.mono HB0.out.size))
            have HLP := Lib.hid (partS_len k m k)
            rw [HEQ.out] at HO2
            go_wp2_with fail
            go_ret2
            exact ⟨_, rfl, by rw [HR.out, HPG.out, HLP.out]; exact HO2.out, HZR.out⟩
          · go_wp2_with fail
            go_loopw [8, 33] (fun u z wx => ∃ i : Nat, i ≤ k ∧ z = .int .i64 i ∧ u = .bool ((List.range i).foldl (rowI k m) (o, false)).2 ∧ wx.ownsRow w0.heap.size 3 1 (.slice AU k cU) k (ints ((List.range i).foldl (rowI k m) (o, false)).1) ∧ Below w0.heap.size w0 wx)
              (fun _ z _ => k - (intOf z).toNat)
            case atStart => exact ⟨0, Nat.zero_le _, rfl, rfl, HO.out, HBE.out⟩
            case round =>
              clear x0 x1 x2 x3 x4 x5 HBE hsz
              obtain ⟨i, hi, rfl, rfl, hown, hbel⟩ := hrel
              have hsz := hbel.size
              have HO2 := Lib.hid hown
              have HBE := Lib.hid hbel
              have HZR := Lib.hid (HB0.out.trans (hbel.mono HB0.out.size))
              clear hown hbel
              by_cases hil : i < k
              · obtain ⟨gb, rfl, hgb, hgc⟩ := ownsP HO2.out (by omega)
                obtain ⟨bn, on, cn, AL, dL, eN, k0, k1, k2, kL⟩ := nod_at HN.out (show i < g.nodes.length by rw [← HNL.out]; exact hil)
                rw [← nodA_get] at k0 k1 k2 kL
                have HLi := Lib.hid (show ∀ W, Below w.heap.size w W → Cells W AL (ints (nodA g i).2.2) from fun W hb => kL.below hb)
                have hli : (nodA g i).2.2.length ≤ 1000 := by rw [nodA_get (show i < g.nodes.length by rw [← HNL.out]; exact hil)]; exact HSM.out.links _ (List.getElem_mem _)
                have k0 := cell_below HZR.out k0 (lt_of_cell k0)
                have k1 := cell_below HZR.out k1 (lt_of_cell k1)
                have k2 := cell_below HZR.out k2 (lt_of_cell k2)
                have bxr := HX.out wr HBE.out
                have e1 : AN = some ⟨bn, on, none⟩ := by cases eN; rfl
                have bxa := HX.out (wr.alloc (.cells #[.int .i64 (nodA g i).1, .int .i64 (nodA g i).2.1, .slice AL (nodA g i).2.2.length dL] 40)) (HBE.out.alloc hsz _)
                have x0 := cell_of_row _ _ 0 _ _ _ bxa
                have x1 := cell_of_row _ _ 1 _ _ _ bxa
                have x2 := cell_of_row _ _ 2 _ _ _ bxa
                have x3 := cell_of_row _ _ 3 _ _ _ bxa
                have x4 := cell_of_row _ _ 4 _ _ _ bxa
                have x5 := cell_of_row _ _ 5 _ _ _ bxa
                rw [← HNL.out] at x1
                obtain ⟨x1i, hx1⟩ : ∃ x1i, x1i = (List.range i).foldl (rowI k m) (o, false) := ⟨_, rfl⟩
                have HLN := Lib.hid (show x1i.1.length = k from by rw [hx1, rowI_len]; exact HOK.out.len)
                have HNX := Lib.hid (show (List.range (i + 1)).foldl (rowI k m) (o, false) = (List.range k).foldl (stepI m i) x1i from by rw [List.range_succ, List.foldl_append, ← hx1]; rfl)
                rw [← hx1] at HO2
                rw [← hx1]
                have v0 : (0 : Int) ≤ (i : Int) := by omega
                have v1 : (i : Int) < (k : Int) := by omega
                have HE1 := Lib.hid e1
                subst e1
                clear hx1 eN kL bxr bxa
                go_wp2_with fail
                obtain ⟨P10, hP10⟩ : ∃ P10, P10 = wr.heap.size := ⟨_, rfl⟩
                rw [← hP10]
                have hPg : P10 ≠ gb := by have := (HO2.out.lt gb rfl).2; omega
                have hPw : w0.heap.size ≤ P10 := by omega
                clear k0 k1 k2
                go_loopw [8, 41] (fun u z wx => ∃ q : Nat, q ≤ k ∧ z = .int .i64 q ∧ u = .bool ((List.range q).foldl (stepI m i) x1i).2 ∧ wx.ownsRow w0.heap.size 3 1 (.slice (some ⟨gb, 0, none⟩) k cU) k (ints ((List.range q).foldl (stepI m i) x1i).1) ∧ wx.heap[P10]? = some (.cells #[.int .i64 (nodA g i).1, .int .i64 (nodA g i).2.1, .slice AL (nodA g i).2.2.length dL] 40) ∧ Below w0.heap.size w0 wx)
                  (fun _ z _ => k - (intOf z).toNat)
                case atStart => exact ⟨0, Nat.zero_le _, rfl, rfl, HO2.out.alloc _, by rw [hP10]; exact heap_alloc_new _ _, HBE.out.alloc hsz _⟩
                case round =>
                  clear HO2 HBE hsz x0 x1 x2 x3 x4 x5 HZR hP10
                  obtain ⟨q, hq, rfl, rfl, hown, hbxn, hbel⟩ := hrel
                  have hsz := hbel.size
                  have HO3 := Lib.hid hown
                  have HBE := Lib.hid hbel
                  have HBN := Lib.hid hbxn
                  have HZR := Lib.hid (HB0.out.trans (hbel.mono HB0.out.size))
                  clear hown hbel hbxn
                  by_cases hql : q < k
                  · obtain ⟨bn', on', cn', AK, dK, eN, k0, k1, k2, kK⟩ := nod_at HN.out (show q < g.nodes.length by rw [← HNL.out]; exact hql)
                    rw [← nodA_get] at k0 k1 k2 kK
                    cases eN
                    have k0 := cell_below HZR.out k0 (lt_of_cell k0)
                    have k1 := cell_below HZR.out k1 (lt_of_cell k1)
                    have k2 := cell_below HZR.out k2 (lt_of_cell k2)
                    obtain ⟨w5, hw5⟩ : ∃ w5, w5 = wr.alloc (.cells #[.int .i64 (nodA g q).1, .int .i64 (nodA g q).2.1, .slice AK (nodA g q).2.2.length dK] 40) := ⟨_, rfl⟩
                    have hbw : Below wr.heap.size wr w5 := by rw [hw5]; exact (Below.refl _ _).alloc (Nat.le_refl _) _
                    have hsw : w5.heap.size = wr.heap.size + 1 := by rw [hw5]; simp
                    have bn5 : w5.heap[wr.heap.size]? = some (.cells #[.int .i64 (nodA g q).1, .int .i64 (nodA g q).2.1, .slice AK (nodA g q).2.2.length dK] 40) := by rw [hw5]; exact heap_alloc_new _ _
                    have HZW := Lib.hid (HZR.out.trans (hbw.mono HZR.out.size))
                    have HBW := Lib.hid (HBE.out.trans (hbw.mono HBE.out.size))
                    have HKK := Lib.hid (show ∀ W, Below w5.heap.size w5 W → Cells W AK (ints (nodA g q).2.2) from fun W hb => (kK.below HZW.out).below hb)
                    have hlk : (nodA g q).2.2.length ≤ 1000 := by rw [nodA_get (show q < g.nodes.length by rw [← HNL.out]; exact hql)]; exact HSM.out.links _ (List.getElem_mem _)
                    have HO5 := Lib.hid (owns_below HO3.out hbw (Nat.le_refl _))
                    have HBN5 := Lib.hid ((hbw.block P10 (Array.getElem?_eq_some_iff.1 HBN.out).1).trans HBN.out)
                    obtain ⟨x2, hx2⟩ : ∃ x2, x2 = (List.range q).foldl (stepI m i) x1i := ⟨_, rfl⟩
                    have HL2 := Lib.hid (show x2.1.length = k from by rw [hx2, foldI_len, HLN.out])
                    have HN2 := Lib.hid (show (List.range (q + 1)).foldl (stepI m i) x1i = stepI m i x2 q from by rw [List.range_succ, List.foldl_append, ← hx2]; rfl)
                    rw [← hx2] at HO5
                    rw [← hx2]
                    have HRG := Lib.hid (fun d os => HZW.out.trans ((below_regrown w5 d os).mono HZW.out.size))
                    have HM := Lib.hid (fun d os => Calls.regrown_of (containsFuncGI_any AL dL (nodA g i).2.2 20 #[.pointer (some ⟨wr.heap.size, 0, none⟩)] (fun j => hasI (nodA g q).2.2 ((nodA g i).2.2.getD j 0)) (grow (redrawn w5 d) os) (by omega) (HLi.out _ (HRG.out d os)) (enter_of Tryd.func20 (by kernel_rfl) (by kernel_rfl)) (fun j y W hj hW => by
                      have e : y = (nodA g i).2.2.getD j 0 := by simp [List.getD, hj]
                      have hbW := (below_regrown w5 d os).trans (hW.mono (below_regrown w5 d os).size)
                      rw [← e]
                      exact linkParts1_any y wr.heap.size AK dK (nodA g q).2.2 W hlk (cell_of_row _ _ 2 _ _ _ ((hbW.block _ (by omega)).trans bn5)) (HKK.out W hbW))))
                    rw [meet_any] at HM
                    have HST := Lib.hid (show stepI m i x2 q = if decide (x2.1.getD i 0 < x2.1.getD q 0) && meetB g i q then (x2.1.set q (x2.1.getD i 0), true) else x2 from by unfold stepI; rw [HMM.out])
                    have ci := int_cell HO5.out HL2.out hil
                    have cq := int_cell HO5.out HL2.out hql
                    have CI := Lib.hid ci
                    have CQ := Lib.hid cq
                    have ci := cell_regrown ci
                    have cq := cell_regrown cq
                    have p2 := cell_regrown (cell_of_row _ _ 2 _ _ _ HBN5.out)
                    have v2 : (0 : Int) ≤ (q : Int) := by omega
                    have v3 : (q : Int) < (k : Int) := by omega
                    have HW5 := Lib.hid hw5
                    clear hx2 kK hbw bn5 hw5
                    obtain ⟨y, hy⟩ : ∃ y, y = x2.1.getD i 0 := ⟨_, rfl⟩
                    obtain ⟨t, ht⟩ : ∃ t, t = x2.1.getD q 0 := ⟨_, rfl⟩
                    rw [← hy, ← ht] at HST
                    rw [← hy] at ci CI
                    rw [← ht] at cq CQ
                    clear hy ht
                    by_cases hty : y < t
                    · rw [decide_eq_true hty, Bool.true_and] at HST
                      cases hmt : meetB g i q
                      · have HEQ := Lib.hid (show stepI m i x2 q = x2 from by rw [HST.out, hmt]; rfl)
                        rw [hmt] at HM
                        clear hmt HST
                        go_wp2_with fail
                        rw [← HW5.out]
                        refine wp_region_quiet_below (by kernel_rfl) (by kernel_rfl) ?_
                        repeat (go_big_quiet_step (exact HM.out _ _))
                        refine wpQuiet_nil ?_
                        intro _ hw'
                        obtain ⟨⟨dq5, osq5⟩, hw''⟩ := hw'
                        subst hw''
                        have hb5 := below_regrown w5 dq5 osq5
                        have HO6 := Lib.hid (owns_below HO5.out hb5 (Nat.le_refl _))
                        have HB5 := Lib.hid (HBW.out.trans (hb5.mono HBW.out.size))
                        have HN5 := Lib.hid ((hb5.block P10 (Array.getElem?_eq_some_iff.1 HBN5.out).1).trans HBN5.out)
                        go_wp2_with fail
                        go_roundw
                        case rel => exact ⟨q + 1, by omega, by go_num, by rw [HN2.out, HEQ.out], by rw [HN2.out, HEQ.out]; exact HO6.out, HN5.out, HB5.out⟩
                        case measure => simp [intOf]; omega
                      · have HEQ := Lib.hid (show stepI m i x2 q = (x2.1.set q y, true) from by rw [HST.out, hmt]; rfl)
                        rw [hmt] at HM
                        clear hmt HST
                        go_wp2_with fail
                        rw [← HW5.out]
                        refine wp_region_quiet_below (by kernel_rfl) (by kernel_rfl) ?_
                        repeat (go_big_quiet_step (exact HM.out _ _))
                        refine wpQuiet_nil ?_
                        intro _ hw'
                        obtain ⟨⟨dq5, osq5⟩, hw''⟩ := hw'
                        subst hw''
                        have hb5 := below_regrown w5 dq5 osq5
                        have HO6 := Lib.hid (owns_below HO5.out hb5 (Nat.le_refl _))
                        have HB5 := Lib.hid (HBW.out.trans (hb5.mono HBW.out.size))
                        have HN5 := Lib.hid ((hb5.block P10 (Array.getElem?_eq_some_iff.1 HBN5.out).1).trans HBN5.out)
                        obtain ⟨wq, hwq⟩ : ∃ wq, wq = grow (redrawn w5 dq5) osq5 := ⟨_, rfl⟩
                        have ci := cell_below hb5 CI.out (lt_of_cell CI.out)
                        have cq := cell_below hb5 CQ.out (lt_of_cell CQ.out)
                        have fq := HO6.out.frozenAt (g := gb) q
                        have HOS := Lib.hid (int_set HO6.out q y)
                        have HBS := Lib.hid (HB5.out.setCell (p := ⟨gb, q, none⟩) hgb (.int .i64 y))
                        have HNS := Lib.hid ((heap_setCell_other (grow (redrawn w5 dq5) osq5) ⟨gb, q, none⟩ P10 (.int .i64 y) hPg).trans HN5.out)
                        rw [← hwq] at ci cq fq HOS HBS HNS ⊢
                        clear hwq hb5 HO6 HB5 HN5 p2
                        go_wp2_with fail
                        go_roundw
                        case rel => exact ⟨q + 1, by omega, by go_num, by rw [HN2.out, HEQ.out], by rw [HN2.out, HEQ.out]; exact HOS.out, HNS.out, HBS.out⟩
                        case measure => simp [intOf]; omega
                    · have HEQ := Lib.hid (show stepI m i x2 q = x2 from by rw [HST.out, decide_eq_false hty]; rfl)
                      have hdt : decide (y < t) = false := decide_eq_false hty
                      clear HST
                      go_wp2_with fail
                      rw [← HW5.out]
                      refine wp_region_quiet_below (by kernel_rfl) (by kernel_rfl) ?_
                      repeat (go_big_quiet_step (exact HM.out _ _))
                      refine wpQuiet_nil ?_
                      intro _ hw'
                      obtain ⟨⟨dq5, osq5⟩, hw''⟩ := hw'
                      subst hw''
                      have hb5 := below_regrown w5 dq5 osq5
                      have HO6 := Lib.hid (owns_below HO5.out hb5 (Nat.le_refl _))
                      have HB5 := Lib.hid (HBW.out.trans (hb5.mono HBW.out.size))
                      have HN5 := Lib.hid ((hb5.block P10 (Array.getElem?_eq_some_iff.1 HBN5.out).1).trans HBN5.out)
                      go_wp2_with fail
                      go_roundw
                      case rel => exact ⟨q + 1, by omega, by go_num, by rw [HN2.out, HEQ.out], by rw [HN2.out, HEQ.out]; exact HO6.out, HN5.out, HB5.out⟩
                      case measure => simp [intOf]; omega
                  · obtain rfl : q = k := by omega
                    go_wp2_with fail
                    go_roundw
                    case rel => exact ⟨i + 1, by omega, by go_num, by rw [HNX.out], by rw [HNX.out]; exact HO3.out, HBE.out⟩
                    case measure => simp [intOf]; omega
              · obtain rfl : i = k := by omega
                obtain ⟨xr, hxr⟩ : ∃ xr, xr = (List.range i).foldl (rowI i m) (o, false) := ⟨_, rfl⟩
                have hip : IP i m (o, false) xr (fun a b => a < i ∧ b < i) := by rw [hxr]; exact passI_ok HOK.out
                rw [← hxr] at HO2
                rw [← hxr]
                have HIP := Lib.hid hip
                have HT1 := Lib.hid (totA_of HO2.out hip.ok.len)
                have HLX := Lib.hid (show ∀ a, a < i → xr.1.getD a 0 ≤ (a : Int) from fun a ha => Int.le_trans (HIP.out.mono a) (HLE.out a ha))
                have HFF := Lib.hid (show xr.2 = false → ∀ a b, a < i → b < i → m a b = true → xr.1.getD b 0 ≤ xr.1.getD a 0 from fun e a b ha hb hm => by
                  obtain ⟨e1, _, e3⟩ := HIP.out.same e
                  rw [e1]; exact e3 a b ⟨ha, hb⟩ hm)
                clear hxr hip
                go_wp2_with fail
                go_roundw
                case rel => exact ⟨xr.2, xr.1, rfl, HO2.out, HIP.out.ok, HLX.out, HFF.out, HBE.out⟩
                case measure =>
                  have hl := HIP.out.less
                  have ht := HT0.out
                  have ht1 := HT1.out
                  have hl2 : xr.2 = true → totI xr.1 < totI o := fun e => by
                    rcases hl e with h | h
                    · exact absurd h Bool.false_ne_true
                    · exact h
                  have e0 : bitOf (.bool true) = true := rfl
                  have e2 : bitOf (.bool xr.2) = xr.2 := rfl
                  rw [e2, if_pos e0, ht, ht1]
                  cases hx : xr.2
                  · rw [if_neg Bool.false_ne_true]; omega
                  · have := hl2 hx
                    rw [if_pos rfl]; omega

end Go.Proofs.YtmnnbgciakigfaaDoor
