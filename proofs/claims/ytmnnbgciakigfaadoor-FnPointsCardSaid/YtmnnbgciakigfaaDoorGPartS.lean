/- The reference's parts of nodes that share links: walked. -/
import Derived.Test.YtmnnbgciakigfaaDoorProg
import Derived.Test.YtmnnbgciakigfaaDoorGMeet
set_option linter.unusedVariables false
namespace Go.Proofs.YtmnnbgciakigfaaDoor
open Go.RowKit Go.Sort

def partG (g : Gr) : List Int := partS g.nodes.length (meetB g) g.nodes.length
def partR (sig : List Ct) (g : Gr) : List Int := if goodG sig g then partG g else []
theorem stepS_len (m : Nat → Nat → Bool) (i : Nat) (o : List Int) (k : Nat) : (stepS m i o k).length = o.length := by
  unfold stepS
  split
  · rw [List.length_set]
  · rfl
theorem foldS_len (m : Nat → Nat → Bool) (i : Nat) : ∀ (ks : List Nat) (o : List Int), (ks.foldl (stepS m i) o).length = o.length
  | [], _ => rfl
  | k :: ks, o => by rw [List.foldl_cons, foldS_len m i ks, stepS_len]
theorem rowS_len (n : Nat) (m : Nat → Nat → Bool) : ∀ (is : List Nat) (o : List Int), (is.foldl (rowS n m) o).length = o.length
  | [], _ => rfl
  | i :: is, o => by rw [List.foldl_cons, rowS_len n m is]; exact foldS_len m i _ o
theorem partS_len (n : Nat) (m : Nat → Nat → Bool) : ∀ r, (partS n m r).length = n
  | 0 => by simp [partS]
  | r + 1 => by
    show (passS n m (partS n m r)).length = n
    unfold passS
    rw [rowS_len, partS_len n m r]
/-- Where a row that is not empty lies. -/
theorem ownsP {w : World} {B n c : Nat} {e : TypeId} {s : Nat} {A : Option Addr} {xs : List Value} (h : w.ownsRow B e s (.slice A n c) n xs) (hn : 0 < n) : ∃ g, A = some ⟨g, 0, none⟩ ∧ B ≤ g ∧ n ≤ c := by
  rcases h.2 with ⟨e1, e2⟩ | ⟨g, cap, cur, e1, hb, _, h3, _⟩
  · omega
  · cases e1
    exact ⟨g, rfl, hb, h3⟩
theorem int_cell {w : World} {B n c : Nat} {e : TypeId} {g : Nat} {o : List Int} (h : w.ownsRow B e 1 (.slice (some ⟨g, 0, none⟩) n c) n (ints o)) (hl : o.length = n) {k : Nat} (hk : k < n) : w.cell? ⟨g, k, none⟩ = some (.int .i64 (o.getD k 0)) := by
  have hc := h.cellAt k (by omega)
  rw [getElem?_ints o k (by omega)] at hc
  exact hc
theorem int_set {w : World} {B n c : Nat} {e : TypeId} {g : Nat} {o : List Int} (h : w.ownsRow B e 1 (.slice (some ⟨g, 0, none⟩) n c) n (ints o)) (k : Nat) (y : Int) : (w.setCell ⟨g, k, none⟩ (.int .i64 y)).ownsRow B e 1 (.slice (some ⟨g, 0, none⟩) n c) n (ints (o.set k y)) := by
  have hst := (h.stored k (.int .i64 y)).1
  have e2 : (ints o).set k (.int .i64 y) = ints (o.set k y) := by simp [ints, List.map_set]
  rwa [e2] at hst

set_option maxRecDepth 100000 in
set_option maxHeartbeats 8000000 in
theorem specLinkParts_any (sig : List Ct) (g : Gr) (nv sv ov iv gv : Value) (w : World) (hs : SmallG g) (hz : SmallS sig) (hS : RSl RCt 3 w gv sig) (hG : RGr w nv sv ov iv g) :
    Calls Tryd.prog 7 #[gv, .agg #[.int .i64 g.roots, nv, sv, .int .i64 g.edges, ov, iv]] w fun e w' => ∃ r, e = .returned (.tuple #[r, .bool (goodG sig g)]) ∧ w'.ownsRow w.heap.size 3 1 r (partR sig g).length (ints (partR sig g)) ∧ Below w.heap.size w w' := by
  have HG := Lib.hid (show ∀ W, Below w.heap.size w W → RGr W nv sv ov iv g from fun W hb => hG.below hb)
  have HS := Lib.hid (show ∀ W, Below w.heap.size w W → RSl RCt 3 W gv sig from fun W hb => hS.below RCt_keep hb)
  have HSM := Lib.hid hs
  have HSZ := Lib.hid hz
  have n1 := hs.nodes
  have HRT := Lib.hid (show goodG sig g = true → partR sig g = partG g from fun h => by unfold partR; rw [h]; rfl)
  have HRF := Lib.hid (show goodG sig g = false → partR sig g = [] from fun h => by unfold partR; rw [h]; rfl)
  obtain ⟨AN, cN, AS, cS, AO, cO, AI, cI, rfl, rfl, rfl, rfl⟩ := hG.form
  obtain ⟨AG, cG, rfl, _⟩ := hS.form
  obtain ⟨w0, hw0⟩ : ∃ w0, w0 = w.alloc (.cells #[.int .i64 g.roots, .slice AN g.nodes.length cN, .slice AS g.sites.length cS, .int .i64 g.edges, .slice AO g.outer.length cO, .slice AI g.inner.length cI] 30) := ⟨_, rfl⟩
  have hb0 : Below w.heap.size w w0 := by rw [hw0]; exact (Below.refl _ _).alloc (Nat.le_refl _) _
  have bx0 : w0.heap[w.heap.size]? = some (.cells #[.int .i64 g.roots, .slice AN g.nodes.length cN, .slice AS g.sites.length cS, .int .i64 g.edges, .slice AO g.outer.length cO, .slice AI g.inner.length cI] 30) := by rw [hw0]; exact heap_alloc_new _ _
  have hsz0 : w0.heap.size = w.heap.size + 1 := by rw [hw0]; simp
  have HX := Lib.hid (show ∀ W, Below w0.heap.size w0 W → W.heap[w.heap.size]? = some (.cells #[.int .i64 g.roots, .slice AN g.nodes.length cN, .slice AS g.sites.length cS, .int .i64 g.edges, .slice AO g.outer.length cO, .slice AI g.inner.length cI] 30) from fun W hW => (hW.block _ (by omega)).trans bx0)
  have HB0 := Lib.hid hb0
  have HW0 := Lib.hid hw0
  obtain ⟨w00, hw00⟩ : ∃ w00, w00 = w0.alloc (.cells #[] 3) := ⟨_, rfl⟩
  have hb00 : Below w0.heap.size w0 w00 := by rw [hw00]; exact (Below.refl _ _).alloc (Nat.le_refl _) _
  have hr00 : w00.ownsRow w0.heap.size 3 1 (.slice (some ⟨w.heap.size + 1, 0, none⟩) 0 0) 0 [] := by have h := made_rowG w0 3; rw [hsz0] at h ⊢; rw [hw00]; exact h
  have HB00 := Lib.hid hb00
  have HR00 := Lib.hid hr00
  have HW00 := Lib.hid (show w00 = (w.alloc (.cells #[.int .i64 g.roots, .slice AN g.nodes.length cN, .slice AS g.sites.length cS, .int .i64 g.edges, .slice AO g.outer.length cO, .slice AI g.inner.length cI] 30)).alloc (.cells #[] 3) from by rw [hw00, hw0])
  have HZ00 := Lib.hid (hb0.trans (hb00.mono hb0.size))
  have bx00 := HX.out w00 hb00
  have x0 := cell_of_row _ _ 0 _ _ _ bx00
  have x1 := cell_of_row _ _ 1 _ _ _ bx00
  have x2 := cell_of_row _ _ 2 _ _ _ bx00
  have x3 := cell_of_row _ _ 3 _ _ _ bx00
  have x4 := cell_of_row _ _ 4 _ _ _ bx00
  have x5 := cell_of_row _ _ 5 _ _ _ bx00
  rw [HW00.out] at x0 x1 x2 x3 x4 x5
  have H1 := Lib.hid (l2Good_any sig g _ _ _ _ _ w00 hs hz (HS.out w00 HZ00.out) (HG.out w00 HZ00.out))
  clear hs hG hS hz hb0 bx0 hw0 hb00 hr00 hw00 bx00
  cases hg : goodG sig g
  · have HR := Lib.hid (HRF.out hg)
    rw [hg] at H1
    go_enter Tryd.func7, Tryd.ntmps7
    go_wp2_with fail
    rw [← HW00.out]
    refine H1.out.mono ?_
    rintro e w1 ⟨rfl, hb1⟩
    clear x0 x1 x2 x3 x4 x5
    have HO := Lib.hid (owns_mono (owns_below HR00.out hb1 (Nat.le_refl _)) HB0.out.size)
    have HZ := Lib.hid (HZ00.out.trans (hb1.mono HZ00.out.size))
    clear hb1
    go_wp2_with fail
    go_ret2
    exact ⟨_, rfl, by rw [HR.out]; exact HO.out, HZ.out⟩
  · have HR := Lib.hid (HRT.out hg)
    obtain ⟨n, hn⟩ : ∃ n, n = g.nodes.length := ⟨_, rfl⟩
    obtain ⟨m, hm⟩ : ∃ m, m = meetB g := ⟨_, rfl⟩
    have HPG := Lib.hid (show partG g = partS n m n from by rw [hn, hm]; rfl)
    have HMM := Lib.hid (fun i k => show m i k = meetB g i k from by rw [hm])
    clear hm
    rw [hg] at H1
    go_enter Tryd.func7, Tryd.ntmps7
    go_wp2_with fail
    rw [← HW00.out]
    refine H1.out.mono ?_
    rintro e w1 ⟨rfl, hb1⟩
    clear x0 x1 x2 x3 x4 x5
    have HB1 := Lib.hid (HB00.out.trans (hb1.mono HB00.out.size))
    have HO1 := Lib.hid (owns_below HR00.out hb1 (Nat.le_refl _))
    have bx1 := HX.out w1 HB1.out
    have x0 := cell_of_row _ _ 0 _ _ _ bx1
    have x1 := cell_of_row _ _ 1 _ _ _ bx1
    have x2 := cell_of_row _ _ 2 _ _ _ bx1
    have x3 := cell_of_row _ _ 3 _ _ _ bx1
    have x4 := cell_of_row _ _ 4 _ _ _ bx1
    have x5 := cell_of_row _ _ 5 _ _ _ bx1
    clear hb1 bx1
    rw [← hn] at x1
    have n2 : n ≤ 1000 := by omega
    have HNL := Lib.hid hn
    clear hn
    go_wp2_with fail
    go_loopw [6, 8] (fun u z wr => ∃ k : Nat, k ≤ n ∧ z = .int .i64 k ∧ wr.ownsRow w0.heap.size 3 1 u k (ints ((List.range k).map fun i : Nat => (i : Int))) ∧ Below w0.heap.size w0 wr)
      (fun _ z _ => n - (intOf z).toNat)
    case atStart => exact ⟨0, Nat.zero_le _, rfl, HO1.out, HB1.out⟩
    case round =>
      clear x0 x1 x2 x3 x4 x5 HO1 HB1
      obtain ⟨k, hk, rfl, hown, hbel⟩ := hrel
      obtain ⟨AU, cU, rfl, hown⟩ := owns_form hown
      have hsz := hbel.size
      have HO := Lib.hid hown
      have HBE := Lib.hid hbel
      clear hown hbel
      by_cases hlt : k < n
      · go_wp2_with (at_builtin; refine wpList_app el_intG rfl _ _ rfl w0.heap.size _ _ _ rfl HO.out [.int .i64 (k : Int)] rfl rfl rfl (one1 rfl) (by omega) hsz ?_; intro v3 w3 ho hk3 hm3)
        have HO3 := Lib.hid (show w3.ownsRow w0.heap.size 3 1 v3 (k + 1) (ints ((List.range (k + 1)).map fun i : Nat => (i : Int))) from by
          rw [List.range_succ, List.map_append, List.map_cons, List.map_nil, ints_app]
          exact ho)
        have HB3 := Lib.hid (below_kept HBE.out hk3 (fun q hq => (HO.out.lt q hq).1) hsz)
        clear ho hk3 hm3
        go_wp2_with fail
        go_roundw
        case rel => exact ⟨k + 1, by omega, by go_num, HO3.out, HB3.out⟩
        case measure => simp [intOf]; omega
      · obtain rfl : k = n := by omega
        go_wp2_with fail
        go_loopw [9] (fun z wx => ∃ r : Nat, r ≤ k ∧ z = .int .i64 r ∧ wx.ownsRow w0.heap.size 3 1 (.slice AU k cU) k (ints (partS k m r)) ∧ Below w0.heap.size w0 wx)
          (fun z _ => k - (intOf z).toNat)
        case atStart => exact ⟨0, Nat.zero_le _, rfl, HO.out, HBE.out⟩
        case round =>
          clear HO HBE hsz
          obtain ⟨r, hr, rfl, hown, hbel⟩ := hrel
          have hsz := hbel.size
          have HO := Lib.hid hown
          have HBE := Lib.hid hbel
          clear hown hbel
          by_cases hrl : r < k
          · obtain ⟨gb, rfl, hgb, hgc⟩ := ownsP HO.out (by omega)
            go_wp2_with fail
            go_loopw [10] (fun z wx => ∃ i : Nat, i ≤ k ∧ z = .int .i64 i ∧ wx.ownsRow w0.heap.size 3 1 (.slice (some ⟨gb, 0, none⟩) k cU) k (ints ((List.range i).foldl (rowS k m) (partS k m r))) ∧ Below w0.heap.size w0 wx)
              (fun z _ => k - (intOf z).toNat)
            case atStart => exact ⟨0, Nat.zero_le _, rfl, HO.out, HBE.out⟩
            case round =>
              clear HO HBE hsz
              obtain ⟨i, hi, rfl, hown, hbel⟩ := hrel
              have hsz := hbel.size
              have HO := Lib.hid hown
              have HBE := Lib.hid hbel
              clear hown hbel
              by_cases hil : i < k
              · obtain ⟨o1, ho1⟩ : ∃ o1, o1 = (List.range i).foldl (rowS k m) (partS k m r) := ⟨_, rfl⟩
                have HLN := Lib.hid (show o1.length = k from by rw [ho1, rowS_len, partS_len])
                have HNX := Lib.hid (show (List.range (i + 1)).foldl (rowS k m) (partS k m r) = (List.range k).foldl (stepS m i) o1 from by rw [List.range_succ, List.foldl_append, ← ho1]; rfl)
                rw [← ho1] at HO
                clear ho1
                go_wp2_with fail
                go_loopw [11] (fun z wx => ∃ q : Nat, q ≤ k ∧ z = .int .i64 q ∧ wx.ownsRow w0.heap.size 3 1 (.slice (some ⟨gb, 0, none⟩) k cU) k (ints ((List.range q).foldl (stepS m i) o1)) ∧ Below w0.heap.size w0 wx)
                  (fun z _ => k - (intOf z).toNat)
                case atStart => exact ⟨0, Nat.zero_le _, rfl, HO.out, HBE.out⟩
                case round =>
                  clear HO HBE hsz
                  obtain ⟨q, hq, rfl, hown, hbel⟩ := hrel
                  have hsz := hbel.size
                  have HO := Lib.hid hown
                  have HBE := Lib.hid hbel
                  have bxr := HX.out wr hbel
                  have HZR := Lib.hid (HB0.out.trans (hbel.mono HB0.out.size))
                  clear hown hbel
                  by_cases hql : q < k
                  · obtain ⟨o2, ho2⟩ : ∃ o2, o2 = (List.range q).foldl (stepS m i) o1 := ⟨_, rfl⟩
                    have HL2 := Lib.hid (show o2.length = k from by rw [ho2, foldS_len, HLN.out])
                    have HN2 := Lib.hid (show (List.range (q + 1)).foldl (stepS m i) o1 = stepS m i o2 q from by rw [List.range_succ, List.foldl_append, ← ho2]; rfl)
                    rw [← ho2] at HO
                    have HM := Lib.hid (fun d os => Calls.regrown_of (l2Meet_any g _ _ _ _ i q (grow (redrawn wr d) os) HSM.out (HG.out _ (HZR.out.trans ((below_regrown wr d os).mono HZR.out.size))) (by rw [← HNL.out]; omega) (by rw [← HNL.out]; omega)))
                    have HST := Lib.hid (show stepS m i o2 q = if meetB g i q && decide (o2.getD q 0 < o2.getD i 0) then o2.set i (o2.getD q 0) else o2 from by unfold stepS; rw [HMM.out])
                    have ci := int_cell HO.out HL2.out hil
                    have cq := int_cell HO.out HL2.out hql
                    have CQ := Lib.hid cq
                    have ci := cell_regrown ci
                    have cq := cell_regrown cq
                    have x0 := cell_regrown (cell_of_row _ _ 0 _ _ _ bxr)
                    have x1 := cell_regrown (cell_of_row _ _ 1 _ _ _ bxr)
                    have x2 := cell_regrown (cell_of_row _ _ 2 _ _ _ bxr)
                    have x3 := cell_regrown (cell_of_row _ _ 3 _ _ _ bxr)
                    have x4 := cell_regrown (cell_of_row _ _ 4 _ _ _ bxr)
                    have x5 := cell_regrown (cell_of_row _ _ 5 _ _ _ bxr)
                    have v0 : (0 : Int) ≤ (i : Int) := by omega
                    have v1 : (i : Int) < (k : Int) := by omega
                    have v2 : (0 : Int) ≤ (q : Int) := by omega
                    have v3 : (q : Int) < (k : Int) := by omega
                    clear ho2 bxr
                    obtain ⟨y, hy⟩ : ∃ y, y = o2.getD i 0 := ⟨_, rfl⟩
                    obtain ⟨t, ht⟩ : ∃ t, t = o2.getD q 0 := ⟨_, rfl⟩
                    rw [← hy, ← ht] at HST
                    rw [← hy] at ci
                    rw [← ht] at cq CQ
                    clear hy ht
                    cases hmt : meetB g i q
                    · have HEQ := Lib.hid (show stepS m i o2 q = o2 from by rw [HST.out, hmt]; rfl)
                      rw [hmt] at HM
                      clear hmt HST
                      go_wp2_with fail
                      refine wp_region_quiet_below (by kernel_rfl) (by kernel_rfl) ?_
                      repeat (go_big_quiet_step (exact HM.out _ _))
                      refine wpQuiet_nil ?_
                      intro _ hw'
                      obtain ⟨⟨dq5, osq5⟩, hw''⟩ := hw'
                      subst hw''
                      have hb5 := below_regrown wr dq5 osq5
                      have HO5 := Lib.hid (owns_below HO.out hb5 (Nat.le_refl _))
                      have HB5 := Lib.hid (HBE.out.trans (hb5.mono HBE.out.size))
                      go_wp2_with fail
                      go_roundw
                      case rel => exact ⟨q + 1, by omega, by go_num, by rw [HN2.out, HEQ.out]; exact HO5.out, HB5.out⟩
                      case measure => simp [intOf]; omega
                    · rw [hmt, Bool.true_and] at HST
                      rw [hmt] at HM
                      clear hmt
                      by_cases hty : t < y
                      · have HEQ := Lib.hid (show stepS m i o2 q = o2.set i t from by rw [HST.out, if_pos (decide_eq_true hty)])
                        clear HST
                        go_wp2_with fail
                        refine wp_region_quiet_below (by kernel_rfl) (by kernel_rfl) ?_
                        repeat (go_big_quiet_step (exact HM.out _ _))
                        refine wpQuiet_nil ?_
                        intro _ hw'
                        obtain ⟨⟨dq5, osq5⟩, hw''⟩ := hw'
                        subst hw''
                        have hb5 := below_regrown wr dq5 osq5
                        have HO5 := Lib.hid (owns_below HO.out hb5 (Nat.le_refl _))
                        have HB5 := Lib.hid (HBE.out.trans (hb5.mono HBE.out.size))
                        obtain ⟨wq, hwq⟩ : ∃ wq, wq = grow (redrawn wr dq5) osq5 := ⟨_, rfl⟩
                        have cq := cell_below hb5 CQ.out (lt_of_cell CQ.out)
                        have ci := int_cell HO5.out HL2.out hil
                        have fi := HO5.out.frozenAt (g := gb) i
                        have HOS := Lib.hid (int_set HO5.out i t)
                        have HBS := Lib.hid (HB5.out.setCell (p := ⟨gb, i, none⟩) hgb (.int .i64 t))
                        rw [← hwq] at cq ci fi HOS HBS ⊢
                        clear hwq hb5 HO5 HB5 x0 x1 x2 x3 x4 x5
                        go_wp2_with fail
                        go_roundw
                        case rel => exact ⟨q + 1, by omega, by go_num, by rw [HN2.out, HEQ.out]; exact HOS.out, HBS.out⟩
                        case measure => simp [intOf]; omega
                      · have HEQ := Lib.hid (show stepS m i o2 q = o2 from by rw [HST.out, if_neg (by simpa using hty)])
                        clear HST
                        go_wp2_with fail
                        refine wp_region_quiet_below (by kernel_rfl) (by kernel_rfl) ?_
                        repeat (go_big_quiet_step (exact HM.out _ _))
                        refine wpQuiet_nil ?_
                        intro _ hw'
                        obtain ⟨⟨dq5, osq5⟩, hw''⟩ := hw'
                        subst hw''
                        have hb5 := below_regrown wr dq5 osq5
                        have HO5 := Lib.hid (owns_below HO.out hb5 (Nat.le_refl _))
                        have HB5 := Lib.hid (HBE.out.trans (hb5.mono HBE.out.size))
                        go_wp2_with fail
                        go_roundw
                        case rel => exact ⟨q + 1, by omega, by go_num, by rw [HN2.out, HEQ.out]; exact HO5.out, HB5.out⟩
                        case measure => simp [intOf]; omega
                  · obtain rfl : q = k := by omega
                    clear bxr
                    go_wp2_with fail
                    go_roundw
                    case rel => exact ⟨i + 1, by omega, by go_num, by rw [HNX.out]; exact HO.out, HBE.out⟩
                    case measure => simp [intOf]; omega
              · obtain rfl : i = k := by omega
                go_wp2_with fail
                go_roundw
                case rel => exact ⟨r + 1, by omega, by go_num, HO.out, HBE.out⟩
                case measure => simp [intOf]; omega
          · obtain rfl : r = k := by omega
            have HO2 := Lib.hid (owns_mono HO.out HB0.out.size)
            have HZR := Lib.hid (HB0.out.trans (HBE.out.mono HB0.out.size))
            have HLP := Lib.hid (partS_len r m r)
            go_wp2_with fail
            go_ret2
            exact ⟨_, rfl, by rw [HR.out, HPG.out, HLP.out]; exact HO2.out, HZR.out⟩

end Go.Proofs.YtmnnbgciakigfaaDoor
