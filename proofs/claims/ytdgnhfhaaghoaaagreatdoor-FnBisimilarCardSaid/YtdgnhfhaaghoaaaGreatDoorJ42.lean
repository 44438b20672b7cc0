/- Labelled systems: the reference's table of silent ways, walked. -/
import Derived.Test.YtdgnhfhaaghoaaaGreatDoorProg
import Derived.Test.YtdgnhfhaaghoaaaGreatDoorJ30
import Derived.Test.YtdgnhfhaaghoaaaGreatDoorJ25
import Derived.Deep.RegionHeld3
import Derived.BigQuiet
set_option linter.unusedSimpArgs false
set_option linter.unusedVariables false
namespace Go.Proofs.YtdgnhfhaaghoaaaGreatDoor
open Go.RowKit

def diagF (k : Nat) (i j : Nat) : Bool := (i == j) && decide (i < k)
theorem diag_set (k : Nat) : setN (diagF k) k k true = diagF (k + 1) := by
  funext a b
  unfold setN diagF
  by_cases h : a = k ∧ b = k
  · obtain ⟨rfl, rfl⟩ := h
    rw [if_pos ⟨rfl, rfl⟩]
    simp
  · rw [if_neg h]
    by_cases e : a = b
    · subst e
      have : ¬ a = k := fun e => h ⟨e, e⟩
      have e2 : decide (a < k) = decide (a < k + 1) := by rw [decide_eq_decide]; omega
      rw [e2]
    · have : (a == b) = false := by simpa using e
      rw [this]; rfl
theorem diag_all {n : Nat} : ∀ a b, a < n → b < n → diagF n a b = wInit [] a b := by
  intro a b ha hb
  unfold diagF wInit silS
  simp [ha]
theorem silS_take {ss : List I3} {k : Nat} (h : k < ss.length) : silS (ss.take (k + 1)) = if ss[k].2.1 == 0 then silS (ss.take k) ++ [ss[k]] else silS (ss.take k) := by
  unfold silS
  rw [List.take_succ_eq_append_getElem h, List.filter_append]
  split
  · rename_i e
    rw [List.filter_cons, if_pos e]; rfl
  · rename_i e
    rw [List.filter_cons, if_neg e]; simp
theorem wInit_skip {ss : List I3} {k : Nat} (h : k < ss.length) (h0 : (ss[k].2.1 == 0) = false) : wInit (ss.take (k + 1)) = wInit (ss.take k) := by
  funext a b
  unfold wInit
  rw [silS_take h, h0, if_neg Bool.false_ne_true]
theorem wInit_put {ss : List I3} {k u v : Nat} (h : k < ss.length) (h0 : (ss[k].2.1 == 0) = true) (hu : ss[k].1 = (u : Int)) (hv : ss[k].2.2 = (v : Int)) : setN (wInit (ss.take k)) u v true = wInit (ss.take (k + 1)) := by
  funext a b
  unfold setN wInit
  rw [silS_take h, h0, if_pos rfl, List.any_append]
  by_cases e : a = u ∧ b = v
  · obtain ⟨rfl, rfl⟩ := e
    rw [if_pos ⟨rfl, rfl⟩]
    simp [hu, hv]
  · rw [if_neg e]
    have : (ss[k].1 == (a : Int) && ss[k].2.2 == (b : Int)) = false := by
      rw [Bool.eq_false_iff]
      intro h
      simp only [Bool.and_eq_true, beq_iff_eq] at h
      exact e ⟨by omega, by omega⟩
    simp [this]
theorem wPart_zero {k : Nat} {f : Nat → Nat → Bool} : wPart k f 0 0 = f := by
  funext a b
  unfold wPart
  rw [if_neg (by omega)]
theorem wPart_nextrow {k n i0 : Nat} {f : Nat → Nat → Bool} : ∀ a b, a < n → b < n → wPart k f i0 n a b = wPart k f (i0 + 1) 0 a b := by
  intro a b ha hb
  unfold wPart
  by_cases h : a < i0 ∨ (a = i0 ∧ b < n)
  · rw [if_pos h, if_pos (by omega)]
  · rw [if_neg h, if_neg (by omega)]
theorem wPart_whole {k n : Nat} {f : Nat → Nat → Bool} : ∀ a b, a < n → b < n → wPart k f n 0 a b = wRound k f a b := by
  intro a b ha hb
  unfold wPart
  rw [if_pos (.inl ha)]
theorem wPart_true {k i j : Nat} {f : Nat → Nat → Bool} (h1 : wPart k f i j i k = true) (h2 : wPart k f i j k j = true) : setN (wPart k f i j) i j true = wPart k f i (j + 1) := by
  funext a b
  rw [wPart_next, h1, h2]
  unfold setN
  simp
theorem wPart_false {k i j : Nat} {f : Nat → Nat → Bool} (h : (wPart k f i j i k && wPart k f i j k j) = false) : wPart k f i (j + 1) = wPart k f i j := by
  funext a b
  rw [wPart_next, h, Bool.or_false]
  split
  · rename_i e
    rw [e.1, e.2]
  · rfl

set_option maxRecDepth 100000 in
set_option maxHeartbeats 16000000 in
theorem l11Silent_any (v : Value) (l : Lab) (w : World) (hn1 : 1 ≤ l.shows.length) (hn40 : l.shows.length ≤ 40) (hst : StepsN l.shows.length l.steps) (hv : RLab w v l) :
    Calls Tryz.prog 161 #[v] w fun e w' => ∃ g c R C, e = .returned (.slice (some ⟨g, 0, none⟩) l.shows.length c) ∧ TabB w' w.heap.size g R C l.shows.length (silF l.shows.length l.steps) ∧ Below w.heap.size w w' := by
  have HST := Lib.hid hst
  obtain ⟨sv, tv, rfl, hsv, htv⟩ := hv
  have HTV := Lib.hid (show ∀ W, Below w.heap.size w W → RA3 W tv l.steps from fun W hb => htv.below hb)
  obtain ⟨A, c0, vs, rfl, hmA, _, _, _⟩ := hsv
  obtain ⟨D, d, rfl, hmD, _⟩ := htv
  obtain ⟨W0, hW0⟩ : ∃ W0, W0 = w.alloc (.cells #[.slice A l.shows.length c0, .slice D l.steps.length d] 27) := ⟨_, rfl⟩
  have hz0 : Below w.heap.size w W0 := by rw [hW0]; exact (Below.refl _ _).alloc (Nat.le_refl _) _
  have hs0 : W0.heap.size = w.heap.size + 1 := by rw [hW0]; simp
  have bx0 : W0.heap[w.heap.size]? = some (.cells #[.slice A l.shows.length c0, .slice D l.steps.length d] 27) := by rw [hW0]; exact heap_alloc_new _ _
  have HX := Lib.hid (show ∀ W, Below W0.heap.size W0 W → W.cell? ⟨w.heap.size, 0, none⟩ = some (.slice A l.shows.length c0) ∧ W.cell? ⟨w.heap.size, 1, none⟩ = some (.slice D l.steps.length d) from fun W hW => by
    have := (hW.block _ (by omega)).trans bx0
    exact ⟨cell_of_row _ _ _ _ _ _ this, cell_of_row _ _ _ _ _ _ this⟩)
  have HTV := Lib.hid (show ∀ W, Below W0.heap.size W0 W → RA3 W (.slice D l.steps.length d) l.steps from fun W hb => HTV.out W (hz0.trans (hb.mono hz0.size)))
  have HTB := Lib.hid (l11Table_any l.shows.length W0 hn1 hn40)
  have HZ0 := Lib.hid hz0
  obtain ⟨x0, x1⟩ := HX.out W0 (Below.refl _ _)
  have HW0 := Lib.hid hW0
  have hsz0 : w.heap.size ≤ W0.heap.size := by omega
  clear hst bx0 hz0 hs0 hW0
  unfold maxLen at hmA hmD
  go_enter Tryz.func161, Tryz.ntmps161
  go_wp2_with fail
  rw [← HW0.out]
  go_wp2_with fail
  refine HTB.out.mono ?_
  rintro e w1 ⟨g, c, R, C, rfl, ht, hb1⟩
  have HT := Lib.hid ht
  have HB := Lib.hid hb1
  clear x0 x1 ht hb1 HTB HW0
  go_wp2_with fail
  go_loopw [5] (fun i wr => ∃ k : Nat, k ≤ l.shows.length ∧ i = .int .i64 k ∧ TabB wr W0.heap.size g R C l.shows.length (diagF k) ∧ Below W0.heap.size W0 wr)
    (fun i _ => l.shows.length - (intOf i).toNat)
  case atStart => exact ⟨0, Nat.zero_le _, rfl, HT.out.congr (fun a b _ _ => by simp [diagF]), HB.out⟩
  case round =>
    clear HT HB
    obtain ⟨i, hi, rfl, ht, hbel⟩ := hrel
    by_cases hlt : i < l.shows.length
    · have o1 := ht.outer i hlt
      obtain ⟨n1, n2⟩ := ht.inner i i hlt hlt
      have HT := Lib.hid (ht.set hlt hlt true)
      have HB := Lib.hid (hbel.setCell (p := ⟨R i, i, none⟩) (ht.low i hlt).1 (.bool true))
      have b0 : (0 : Int) ≤ (i : Int) := by omega
      have b1 : (i : Int) < (l.shows.length : Int) := by omega
      clear ht hbel
      go_wp2_with fail
      go_roundw
      case rel => exact ⟨i + 1, by omega, by go_num, by rw [← diag_set]; exact HT.out, HB.out⟩
      case measure => simp [intOf]; omega
    · obtain rfl : i = l.shows.length := by omega
      have HT := Lib.hid (ht.congr diag_all)
      have HB := Lib.hid hbel
      obtain ⟨x0, x1⟩ := HX.out wr hbel
      clear ht hbel
      go_wp2_with fail
      go_loopw [6] (fun i wr => ∃ k : Nat, k ≤ l.steps.length ∧ i = .int .i64 k ∧ TabB wr W0.heap.size g R C l.shows.length (wInit (l.steps.take k)) ∧ Below W0.heap.size W0 wr)
        (fun i _ => l.steps.length - (intOf i).toNat)
      case atStart => exact ⟨0, Nat.zero_le _, rfl, HT.out, HB.out⟩
      case round =>
        clear HT HB x0 x1
        obtain ⟨k, hk, rfl, ht, hbel⟩ := hrel
        obtain ⟨x0, x1⟩ := HX.out wr hbel
        by_cases hkt : k < l.steps.length
        · obtain ⟨b, oo, c', e, h0, h1, h2⟩ := (HTV.out wr hbel).at_ (List.getElem?_eq_getElem hkt)
          cases e
          obtain ⟨u, z, hu, hz, hun, hzn⟩ := HST.out _ (List.getElem_mem hkt)
          have b0 : (0 : Int) ≤ (k : Int) := by omega
          have b1 : (k : Int) < (l.steps.length : Int) := by omega
          cases h00 : (l.steps[k].2.1 == 0)
          · have HSK := Lib.hid (wInit_skip hkt h00)
            have HTA := Lib.hid (fun o => ht.below ((Below.refl _ wr).alloc (Nat.le_refl _) o) (Nat.le_refl _))
            have HBA := Lib.hid (fun o => hbel.alloc hbel.size o)
            clear ht hbel
            generalize l.steps[k] = s at *
            go_wp2_with fail
            go_roundw
            case rel => exact ⟨k + 1, by omega, by go_num, by rw [HSK.out]; exact HTA.out _, HBA.out _⟩
            case measure => simp [intOf]; omega
          · have HPU := Lib.hid (wInit_put hkt h00 hu hz)
            rw [hu] at h0
            rw [hz] at h2
            have e0 : l.steps[k].2.1 = 0 := by simpa using h00
            rw [e0] at h1
            have hta := ht.below ((Below.refl _ wr).alloc (Nat.le_refl _) (.cells #[.int .i64 u, .int .i64 0, .int .i64 z] 103)) (Nat.le_refl _)
            have hba := hbel.alloc hbel.size (.cells #[.int .i64 u, .int .i64 0, .int .i64 z] 103)
            have o1 := hta.outer u hun
            obtain ⟨n1, n2⟩ := hta.inner u z hun hzn
            have HTA := Lib.hid ((hta.set hun hzn true).below (Below.refl _ _).drew (Nat.le_refl _))
            have HBA := Lib.hid (hba.setCell (p := ⟨R u, z, none⟩) (hta.low u hun).1 (.bool true)).drew
            have q0 : (wr.alloc (.cells #[.int .i64 u, .int .i64 0, .int .i64 z] 103)).cell? ⟨wr.heap.size, 0, none⟩ = some (.int .i64 u) := cell_of_row _ _ _ _ _ _ (heap_alloc_new _ _)
            have q2 : (wr.alloc (.cells #[.int .i64 u, .int .i64 0, .int .i64 z] 103)).cell? ⟨wr.heap.size, 2, none⟩ = some (.int .i64 z) := cell_of_row _ _ _ _ _ _ (heap_alloc_new _ _)
            have b2 : (0 : Int) ≤ (u : Int) := by omega
            have b3 : (u : Int) < (l.shows.length : Int) := by omega
            have b4 : (0 : Int) ≤ (z : Int) := by omega
            have b5 : (z : Int) < (l.shows.length : Int) := by omega
            clear ht hbel hta hba hu hz h00 e0
            go_wp2_with fail
            go_region
            go_wp2_with fail
            go_roundw
            case rel => exact ⟨k + 1, by omega, by go_num, by rw [← HPU.out]; exact HTA.out, HBA.out⟩
            case measure => simp [intOf]; omega
        · obtain rfl : k = l.steps.length := by omega
          rw [List.take_length] at ht
          have HT := Lib.hid ht
          have HB := Lib.hid hbel
          clear ht hbel
          go_wp2_with fail
          go_loopw [8] (fun i wr => ∃ k : Nat, k ≤ l.shows.length ∧ i = .int .i64 k ∧ TabB wr W0.heap.size g R C l.shows.length (wAll (wInit l.steps) k) ∧ Below W0.heap.size W0 wr)
            (fun i _ => l.shows.length - (intOf i).toNat)
          case atStart => exact ⟨0, Nat.zero_le _, rfl, HT.out, HB.out⟩
          case round =>
            clear HT HB x0 x1
            obtain ⟨k, hk, rfl, ht, hbel⟩ := hrel
            by_cases hkn : k < l.shows.length
            · have HNX := Lib.hid (show wAll (wInit l.steps) (k + 1) = wRound k (wAll (wInit l.steps) k) from rfl)
              generalize wAll (wInit l.steps) k = F at *
              rw [← wPart_zero (k := k) (f := F)] at ht
              have HT := Lib.hid ht
              have HB := Lib.hid hbel
              clear ht hbel
              go_wp2_with fail
              go_loopw [9] (fun i wr => ∃ p : Nat, p ≤ l.shows.length ∧ i = .int .i64 p ∧ TabB wr W0.heap.size g R C l.shows.length (wPart k F p 0) ∧ Below W0.heap.size W0 wr)
                (fun i _ => l.shows.length - (intOf i).toNat)
              case atStart => exact ⟨0, Nat.zero_le _, rfl, HT.out, HB.out⟩
              case round =>
                clear HT HB
                obtain ⟨i, hi, rfl, ht, hbel⟩ := hrel
                have HT := Lib.hid ht
                have HB := Lib.hid hbel
                clear ht hbel
                by_cases hin : i < l.shows.length
                · go_wp2_with fail
                  go_loopw [10] (fun q wr => ∃ j : Nat, j ≤ l.shows.length ∧ q = .int .i64 j ∧ TabB wr W0.heap.size g R C l.shows.length (wPart k F i j) ∧ Below W0.heap.size W0 wr)
                    (fun q _ => l.shows.length - (intOf q).toNat)
                  case atStart => exact ⟨0, Nat.zero_le _, rfl, HT.out, HB.out⟩
                  case round =>
                    clear HT HB
                    obtain ⟨j, hj, rfl, ht, hbel⟩ := hrel
                    by_cases hjn : j < l.shows.length
                    · have o1 := ht.outer i hin
                      have o2 := ht.outer k hkn
                      obtain ⟨n1, _⟩ := ht.inner i k hin hkn
                      obtain ⟨n2, _⟩ := ht.inner k j hkn hjn
                      obtain ⟨n3, n4⟩ := ht.inner i j hin hjn
                      have b0 : (0 : Int) ≤ (i : Int) := by omega
                      have b1 : (i : Int) < (l.shows.length : Int) := by omega
                      have b2 : (0 : Int) ≤ (j : Int) := by omega
                      have b3 : (j : Int) < (l.shows.length : Int) := by omega
                      have b4 : (0 : Int) ≤ (k : Int) := by omega
                      have b5 : (k : Int) < (l.shows.length : Int) := by omega
                      have HTS := Lib.hid (ht.set hin hjn true)
                      have HBS := Lib.hid (hbel.setCell (p := ⟨R i, j, none⟩) (ht.low i hin).1 (.bool true))
                      have HT := Lib.hid ht
                      have HB := Lib.hid hbel
                      clear ht hbel
                      cases h1 : wPart k F i j i k
                      · have HN := Lib.hid (wPart_false (k := k) (i := i) (j := j) (f := F) (by rw [h1]; rfl))
                        rw [h1] at n1
                        clear h1
                        go_wp2_with fail
                        go_roundw
                        case rel => exact ⟨j + 1, by omega, by go_num, by rw [HN.out]; exact HT.out, HB.out⟩
                        case measure => simp [intOf]; omega
                      · cases h2 : wPart k F i j k j
                        · have HN := Lib.hid (wPart_false (k := k) (i := i) (j := j) (f := F) (by rw [h1, h2]; rfl))
                          rw [h1] at n1
                          rw [h2] at n2
                          clear h1 h2
                          go_wp2_with fail
                          go_roundw
                          case rel => exact ⟨j + 1, by omega, by go_num, by rw [HN.out]; exact HT.out, HB.out⟩
                          case measure => simp [intOf]; omega
                        · have HN := Lib.hid (wPart_true h1 h2)
                          rw [h1] at n1
                          rw [h2] at n2
                          clear h1 h2
                          go_wp2_with fail
                          go_roundw
                          case rel => exact ⟨j + 1, by omega, by go_num, by rw [← HN.out]; exact HTS.out, HBS.out⟩
                          case measure => simp [intOf]; omega
                    · obtain rfl : j = l.shows.length := by omega
                      have HT := Lib.hid (ht.congr wPart_nextrow)
                      have HB := Lib.hid hbel
                      clear ht hbel
                      go_wp2_with fail
                      go_roundw
                      case rel => exact ⟨i + 1, by omega, by go_num, HT.out, HB.out⟩
                      case measure => simp [intOf]; omega
                · obtain rfl : i = l.shows.length := by omega
                  have HT2 := Lib.hid (HT.out.congr wPart_whole)
                  clear HT
                  go_wp2_with fail
                  go_roundw
                  case rel => exact ⟨k + 1, by omega, by go_num, by rw [HNX.out]; exact HT2.out, HB.out⟩
                  case measure => simp [intOf]; omega
            · obtain rfl : k = l.shows.length := by omega
              have HT := Lib.hid (ht.mono hsz0)
              have HB := Lib.hid (HZ0.out.trans (hbel.mono hsz0))
              clear ht hbel
              go_wp2_with fail
              go_ret
              exact ⟨g, c, R, C, rfl, HT.out, HB.out⟩

end Go.Proofs.YtdgnhfhaaghoaaaGreatDoor
