/- The inner names' list, and lists of names: the two packages' functions walked. -/
import Derived.Test.YtijkdpdmclkmlaaGreatDoorProg
import Derived.Test.YtijkdpdmclkmlaaGreatDoorJ3
set_option linter.unusedSimpArgs false
set_option linter.unusedVariables false
namespace Go.Proofs.YtijkdpdmclkmlaaGreatDoor
open Go.RowKit

theorem el_strG : El Tryz.prog 24 9 1 16 := El.mk' Tryz.underlying24 (by kernel_rfl : _ = some (some (.string ⟨#[]⟩), 1, 16)) rfl (by decide)
theorem made_rowG (w : World) (t : TypeId) : (w.alloc (.cells #[] t)).ownsRow w.heap.size t 1 (.slice (some ⟨w.heap.size, 0, none⟩) 0 0) 0 [] := World.ownsRow_made w #[] 0 (Nat.le_refl _) (Nat.zero_le _) rfl
theorem strs_take {l : List ByteArray} {k : Nat} (h : k < l.length) : strs (l.take (k + 1)) = strs (l.take k) ++ [.string l[k]] := by
  unfold strs
  rw [List.take_succ_eq_append_getElem h, List.map_append]
  rfl
theorem innerN_len (g : Gr) : (innerN g).length = g.inner.length := by simp [innerN]
theorem innerN_get {g : Gr} {k : Nat} (h : k < g.inner.length) : (innerN g)[k]'(by rw [innerN_len]; exact h) = g.inner[k].1 := by simp [innerN]

set_option maxRecDepth 100000 in
set_option maxHeartbeats 4000000 in
theorem l2Inner_any (g : Gr) (nv sv ov iv : Value) (w : World) (hs : SmallG g) (hG : RGr w nv sv ov iv g) :
    Calls Tryz.prog 151 #[.agg #[.int .i64 g.roots, nv, sv, .int .i64 g.edges, ov, iv]] w fun e w' => ∃ r, e = .returned r ∧ w'.ownsRow w.heap.size 9 1 r g.inner.length (strs (innerN g)) ∧ Below w.heap.size w w' := by
  have HI := Lib.hid (show ∀ W, Below w.heap.size w W → RSl RWi 2 W iv g.inner from fun W hb => hG.i.below RWi_keep hb)
  obtain ⟨AN, cN, AS, cS, AO, cO, AI, cI, rfl, rfl, rfl, rfl⟩ := hG.form
  have h1 := hs.inner
  obtain ⟨w0, hw0⟩ : ∃ w0, w0 = w.alloc (.cells #[.int .i64 g.roots, .slice AN g.nodes.length cN, .slice AS g.sites.length cS, .int .i64 g.edges, .slice AO g.outer.length cO, .slice AI g.inner.length cI] 31) := ⟨_, rfl⟩
  have hb0 : Below w.heap.size w w0 := by rw [hw0]; exact (Below.refl _ _).alloc (Nat.le_refl _) _
  have bx0 : w0.heap[w.heap.size]? = some (.cells #[.int .i64 g.roots, .slice AN g.nodes.length cN, .slice AS g.sites.length cS, .int .i64 g.edges, .slice AO g.outer.length cO, .slice AI g.inner.length cI] 31) := by rw [hw0]; exact heap_alloc_new _ _
  have hsz0 : w0.heap.size = w.heap.size + 1 := by rw [hw0]; simp
  have HB0 := Lib.hid hb0
  have HX0 := Lib.hid bx0
  have HW0 := Lib.hid hw0
  have HLN := Lib.hid (innerN_len g)
  clear hs hG hb0 bx0 hw0
  go_enter Tryz.func151, Tryz.ntmps151
  go_wp2_with fail
  rw [← HW0.out]
  go_loopw [3, 4] (fun u i wr => ∃ k : Nat, k ≤ g.inner.length ∧ i = .int .i64 k ∧ wr.ownsRow w0.heap.size 9 1 u k (strs ((innerN g).take k)) ∧ Below w0.heap.size w0 wr)
    (fun _ i _ => g.inner.length - (intOf i).toNat)
  case atStart => exact ⟨0, Nat.zero_le _, rfl, by have h := made_rowG w0 9; rw [hsz0] at h ⊢; exact h, (Below.refl _ _).alloc (Nat.le_refl _) _⟩
  case round =>
    obtain ⟨k, hk, rfl, hown, hbel⟩ := hrel
    obtain ⟨AU, cU, rfl, hown⟩ := owns_form hown
    have hsz := hbel.size
    have i5 : wr.cell? ⟨w.heap.size, 5, none⟩ = some (.slice AI g.inner.length cI) := cell_of_row _ _ _ _ _ _ ((hbel.block _ (by omega)).trans HX0.out)
    by_cases hlt : k < g.inner.length
    · obtain ⟨b, o, c, ev, k0, k1⟩ := wi_at (HI.out wr (HB0.out.trans (hbel.mono HB0.out.size))) hlt
      cases ev
      have HT := Lib.hid (strs_take (l := innerN g) (k := k) (by rw [innerN_len]; exact hlt))
      have HE := Lib.hid (innerN_get hlt)
      have HO := Lib.hid hown
      have HBE := Lib.hid hbel
      clear hown hbel k1
      rw [HE.out] at HT
      clear HE
      generalize g.inner[k].1 = s at *
      go_wp2_with (at_builtin; refine wpList_app el_strG rfl _ _ rfl w0.heap.size _ _ _ rfl HO.out [.string s] rfl rfl rfl (one1 rfl) (by omega) hsz ?_; intro v2 w2 ho hk2 hm2)
      have HO2 := Lib.hid (show w2.ownsRow w0.heap.size 9 1 v2 (k + 1) (strs ((innerN g).take (k + 1))) from by rw [HT.out]; exact ho)
      have HB2 := Lib.hid (below_kept HBE.out hk2 (fun q hq => (HO.out.lt q hq).1) hsz)
      clear ho hk2 hm2
      go_wp2_with fail
      go_roundw
      case rel => exact ⟨k + 1, by omega, by go_num, HO2.out, HB2.out⟩
      case measure => simp [intOf]; omega
    · obtain rfl : k = g.inner.length := by omega
      rw [List.take_of_length_le (by rw [HLN.out]; exact Nat.le_refl _)] at hown
      have HO := Lib.hid (owns_mono hown HB0.out.size)
      have HBE := Lib.hid (HB0.out.trans (hbel.mono HB0.out.size))
      clear hown hbel
      go_wp2_with fail
      go_ret
      exact ⟨_, rfl, HO.out, HBE.out⟩

set_option maxRecDepth 100000 in
set_option maxHeartbeats 4000000 in
theorem innerNames_any (g : Gr) (nv sv ov iv : Value) (w : World) (hs : SmallG g) (hG : RGr w nv sv ov iv g) :
    Calls Tryz.prog 141 #[.agg #[.int .i64 g.roots, nv, sv, .int .i64 g.edges, ov, iv]] w fun e w' => ∃ r, e = .returned r ∧ w'.ownsRow w.heap.size 9 1 r g.inner.length (strs (innerN g)) ∧ Below w.heap.size w w' := by
  have HI := Lib.hid (show ∀ W, Below w.heap.size w W → RSl RWi 2 W iv g.inner from fun W hb => hG.i.below RWi_keep hb)
  obtain ⟨AN, cN, AS, cS, AO, cO, AI, cI, rfl, rfl, rfl, rfl⟩ := hG.form
  have h1 := hs.inner
  obtain ⟨w0, hw0⟩ : ∃ w0, w0 = w.alloc (.cells #[.int .i64 g.roots, .slice AN g.nodes.length cN, .slice AS g.sites.length cS, .int .i64 g.edges, .slice AO g.outer.length cO, .slice AI g.inner.length cI] 31) := ⟨_, rfl⟩
  have hb0 : Below w.heap.size w w0 := by rw [hw0]; exact (Below.refl _ _).alloc (Nat.le_refl _) _
  have bx0 : w0.heap[w.heap.size]? = some (.cells #[.int .i64 g.roots, .slice AN g.nodes.length cN, .slice AS g.sites.length cS, .int .i64 g.edges, .slice AO g.outer.length cO, .slice AI g.inner.length cI] 31) := by rw [hw0]; exact heap_alloc_new _ _
  have hsz0 : w0.heap.size = w.heap.size + 1 := by rw [hw0]; simp
  have HB0 := Lib.hid hb0
  have HX0 := Lib.hid bx0
  have HW0 := Lib.hid hw0
  have HLN := Lib.hid (innerN_len g)
  clear hs hG hb0 bx0 hw0
  go_enter Tryz.func141, Tryz.ntmps141
  go_wp2_with fail
  rw [← HW0.out]
  go_loopw [3, 10] (fun u i wr => ∃ k : Nat, k ≤ g.inner.length ∧ i = .int .i64 k ∧ wr.ownsRow w0.heap.size 9 1 u k (strs ((innerN g).take k)) ∧ Below w0.heap.size w0 wr)
    (fun _ i _ => g.inner.length - (intOf i).toNat)
  case atStart => exact ⟨0, Nat.zero_le _, rfl, by have h := made_rowG w0 9; rw [hsz0] at h ⊢; exact h, (Below.refl _ _).alloc (Nat.le_refl _) _⟩
  case round =>
    obtain ⟨k, hk, rfl, hown, hbel⟩ := hrel
    obtain ⟨AU, cU, rfl, hown⟩ := owns_form hown
    have hsz := hbel.size
    have i5 : wr.cell? ⟨w.heap.size, 5, none⟩ = some (.slice AI g.inner.length cI) := cell_of_row _ _ _ _ _ _ ((hbel.block _ (by omega)).trans HX0.out)
    by_cases hlt : k < g.inner.length
    · obtain ⟨b, o, c, ev, k0, k1⟩ := wi_at (HI.out wr (HB0.out.trans (hbel.mono HB0.out.size))) hlt
      cases ev
      have HT := Lib.hid (strs_take (l := innerN g) (k := k) (by rw [innerN_len]; exact hlt))
      have HE := Lib.hid (innerN_get hlt)
      have HO := Lib.hid hown
      have HBE := Lib.hid hbel
      clear hown hbel
      rw [HE.out] at HT
      clear HE
      generalize g.inner[k].1 = s at *
      generalize g.inner[k].2 = l at *
      go_wp2_with (at_builtin; refine wpList_app el_strG rfl _ _ rfl w0.heap.size _ _ _ rfl (HO.out.alloc _) [.string s] rfl (by simp) rfl (one1 rfl) (by omega) (by simp; omega) ?_; intro v2 w2 ho hk2 hm2)
      have HO2 := Lib.hid (show w2.ownsRow w0.heap.size 9 1 v2 (k + 1) (strs ((innerN g).take (k + 1))) from by rw [HT.out]; exact ho)
      have HB2 := Lib.hid (below_kept (HBE.out.alloc hsz _) hk2 (fun q hq => (HO.out.lt q hq).1) (by simp; omega))
      clear ho hk2 hm2
      go_wp2_with fail
      go_roundw
      case rel => exact ⟨k + 1, by omega, by go_num, HO2.out, HB2.out⟩
      case measure => simp [intOf]; omega
    · obtain rfl : k = g.inner.length := by omega
      rw [List.take_of_length_le (by rw [HLN.out]; exact Nat.le_refl _)] at hown
      have HO := Lib.hid (owns_mono hown HB0.out.size)
      have HBE := Lib.hid (HB0.out.trans (hbel.mono HB0.out.size))
      clear hown hbel
      go_wp2_with fail
      go_ret
      exact ⟨_, rfl, HO.out, HBE.out⟩

set_option maxRecDepth 100000 in
set_option maxHeartbeats 2000000 in
theorem areNames_any (A : Option Addr) (c : Nat) (l : List ByteArray) (w : World) (hl : l.length ≤ 1000) (hz : ∀ s ∈ l, s.size ≤ 1000) (hA : Cells w A (strs l)) :
    Calls Tryz.prog 91 #[.slice A l.length c] w fun e w' => e = .returned (.bool (namesB l)) ∧ Below w.heap.size w w' := by
  have HA := Lib.hid (show ∀ W, Below w.heap.size w W → Cells W A (strs l) from fun W hb => hA.below hb)
  have HZ := Lib.hid (show ∀ k, k < l.length → (l.getD k default).size ≤ 1000 from fun k hk => by
    simp only [List.getD, List.getElem?_eq_getElem hk, Option.getD_some]
    exact hz _ (List.getElem_mem hk))
  clear hA hz
  go_enter Tryz.func91, Tryz.ntmps91
  go_wp2_with fail
  go_loopw [7] (fun i wr => ∃ k : Nat, k ≤ l.length ∧ i = .int .i64 k ∧ (∀ j, j < k → nameAt l j = true) ∧ Below w.heap.size w wr)
    (fun i _ => l.length - (intOf i).toNat)
  case atStart => exact ⟨0, Nat.zero_le _, rfl, fun j hj => by omega, Below.refl _ _⟩
  case round =>
    obtain ⟨k, hk, rfl, hall, hbel⟩ := hrel
    have HALL := Lib.hid hall
    have HBE := Lib.hid hbel
    clear hall
    by_cases hlt : k < l.length
    · obtain ⟨b, o, eA, hc⟩ := (HA.out wr hbel).str hlt
      have c0 := hc k hlt
      have HN := Lib.hid (isName_any (l.getD k default) wr (by have := HZ.out k hlt; unfold maxLen; omega))
      have HLQ := Lib.hid (less_leq (l.getD (k - 1) default) (l.getD k default))
      have HAT := Lib.hid (show nameAt l k = (nameB (l.getD k default) && (k == 0 || lessS (l.getD (k - 1) default) (l.getD k default))) from rfl)
      have HF := Lib.hid (show nameAt l k = false → namesB l = false from fun h => by unfold namesB; rw [allR_false hlt h, Bool.false_and])
      have HN2 := Lib.hid (show nameAt l k = true → ∀ j, j < k + 1 → nameAt l j = true from fun h => all_next HALL.out h)
      cases k with
      | zero =>
        subst eA
        rw [Nat.add_zero] at c0
        clear hc hbel
        cases hn : nameB (l.getD 0 default)
        · have HFF := Lib.hid (HF.out (by rw [HAT.out, hn]; rfl))
          rw [hn] at HN
          clear hn
          generalize l.getD 0 default = s at *
          go_wp2_with fail
          refine HN.out.mono ?_
          rintro e w1 ⟨rfl, hb⟩
          go_wp2_with fail
          go_ret
          exact ⟨by rw [HFF.out]; rfl, HBE.out.trans (hb.mono HBE.out.size)⟩
        · have HTT := Lib.hid (HN2.out (by rw [HAT.out, hn]; rfl))
          rw [hn] at HN
          clear hn
          generalize l.getD 0 default = s at *
          go_wp2_with fail
          refine HN.out.mono ?_
          rintro e w1 ⟨rfl, hb⟩
          have HB1 := Lib.hid (HBE.out.trans (hb.mono HBE.out.size))
          clear hb
          go_wp2_with fail
          go_roundw
          case rel => exact ⟨1, by omega, by go_num, HTT.out, HB1.out⟩
          case measure => simp [intOf]; omega
      | succ m =>
        have c1 := hc m (by omega)
        subst eA
        clear hc hbel
        rw [Nat.add_sub_cancel] at HLQ HAT
        cases hn : nameB (l.getD (m + 1) default)
        · have HFF := Lib.hid (HF.out (by rw [HAT.out, hn]; rfl))
          rw [hn] at HN
          clear hn c1
          generalize l.getD (m + 1) default = s at *
          go_wp2_with fail
          refine HN.out.mono ?_
          rintro e w1 ⟨rfl, hb⟩
          go_wp2_with fail
          go_ret
          exact ⟨by rw [HFF.out]; rfl, HBE.out.trans (hb.mono HBE.out.size)⟩
        · rw [hn] at HN
          cases hq : lessS (l.getD m default) (l.getD (m + 1) default)
          · have HFF := Lib.hid (HF.out (by rw [HAT.out, hq]; simp))
            have hlq := HLQ.out
            rw [hq] at hlq
            have HC1 := Lib.hid c1
            clear hn hq c1
            generalize l.getD (m + 1) default = s at *
            generalize l.getD m default = p at *
            go_wp2_with fail
            refine HN.out.mono ?_
            rintro e w1 ⟨rfl, hb⟩
            have c1 := cell_below hb HC1.out (lt_of_cell HC1.out)
            go_wp2_with fail
            go_ret
            exact ⟨by rw [HFF.out]; rfl, HBE.out.trans (hb.mono HBE.out.size)⟩
          · have HTT := Lib.hid (HN2.out (by rw [HAT.out, hn, hq]; simp))
            have hlq := HLQ.out
            rw [hq] at hlq
            have HC1 := Lib.hid c1
            clear hn hq c1
            generalize l.getD (m + 1) default = s at *
            generalize l.getD m default = p at *
            go_wp2_with fail
            refine HN.out.mono ?_
            rintro e w1 ⟨rfl, hb⟩
            have c1 := cell_below hb HC1.out (lt_of_cell HC1.out)
            have HB1 := Lib.hid (HBE.out.trans (hb.mono HBE.out.size))
            clear hb HC1
            go_wp2_with fail
            go_roundw
            case rel => exact ⟨m + 1 + 1, by omega, by go_num, HTT.out, HB1.out⟩
            case measure => simp [intOf]; omega
    · obtain rfl : k = l.length := by omega
      have HE := Lib.hid (show namesB l = decide ((l.length : Int) ≤ 16) from by
        unfold namesB
        rw [allR_true HALL.out, Bool.true_and]
        by_cases h : l.length ≤ 16
        · rw [decide_eq_true h, decide_eq_true (by omega)]
        · rw [decide_eq_false h, decide_eq_false (by omega)])
      clear hbel
      go_wp2_with fail
      go_ret
      exact ⟨by rw [HE.out]; rfl, HBE.out⟩

end Go.Proofs.YtijkdpdmclkmlaaGreatDoor
