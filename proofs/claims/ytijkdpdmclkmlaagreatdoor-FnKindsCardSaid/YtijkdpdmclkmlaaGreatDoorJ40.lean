/- Two slices of numbers compared: l1Same and slices.Equal walked. -/
import Derived.Test.YtijkdpdmclkmlaaGreatDoorProg
import Derived.Test.YtijkdpdmclkmlaaGreatDoorJ2
import Derived.Deep.QuietTactic
import Derived.BigQuiet
set_option linter.unusedSimpArgs false
set_option linter.unusedVariables false
namespace Go.Proofs.YtijkdpdmclkmlaaGreatDoor
open Go.RowKit

theorem same_no {xs ys : List Int} (hl : xs.length = ys.length) {k : Nat} (hk : k < xs.length) (h : xs.getD k 0 ≠ ys.getD k 0) : sameI xs ys = false := by
  unfold sameI
  rw [decide_eq_false_iff_not]
  intro e
  exact h (by rw [e])
theorem same_yes {xs ys : List Int} (hl : xs.length = ys.length) (h : ∀ j, j < xs.length → xs.getD j 0 = ys.getD j 0) : sameI xs ys = true := by
  unfold sameI
  rw [decide_eq_true_iff]
  apply List.ext_getElem hl
  intro i h1 h2
  have := h i h1
  simpa [List.getD, h1, h2] using this
theorem same_len {xs ys : List Int} (hl : xs.length ≠ ys.length) : sameI xs ys = false := by
  unfold sameI
  rw [decide_eq_false_iff_not]
  intro e
  exact hl (by rw [e])

set_option maxRecDepth 100000 in
set_option maxHeartbeats 2000000 in
theorem l1Same_any (A B : Option Addr) (c d : Nat) (xs ys : List Int) (w : World) (hn : xs.length ≤ 16777216) (hm : ys.length ≤ 16777216) (hA : Cells w A (ints xs)) (hB : Cells w B (ints ys)) :
    Calls Tryz.prog 232 #[.slice A xs.length c, .slice B ys.length d] w fun e w' => e = .returned (.bool (sameI xs ys)) ∧ Below w.heap.size w w' := by
  by_cases hl : xs.length = ys.length
  · have hl' : ((xs.length : Int) == (ys.length : Int)) = true := by simp [hl]
    have hl'' : ((xs.length : Int) != (ys.length : Int)) = false := by simp [hl]
    have HL := Lib.hid hl
    have HA := Lib.hid (show ∀ W, Below w.heap.size w W → Cells W A (ints xs) from fun W hb => hA.below hb)
    have HB := Lib.hid (show ∀ W, Below w.heap.size w W → Cells W B (ints ys) from fun W hb => hB.below hb)
    clear hl hA hB
    go_enter Tryz.func232, Tryz.ntmps232
    go_wp2_with fail
    go_loopw [5] (fun i wr => ∃ k : Nat, k ≤ xs.length ∧ i = .int .i64 k ∧ (∀ j, j < k → xs.getD j 0 = ys.getD j 0) ∧ Below w.heap.size w wr) (fun i _ => xs.length - (intOf i).toNat)
    case atStart => exact ⟨0, Nat.zero_le _, rfl, fun j hj => by omega, Below.refl _ _⟩
    case round =>
      obtain ⟨k, hk, rfl, hall, hbel⟩ := hrel
      have HALL := Lib.hid hall
      have HZ := Lib.hid hbel
      clear hall
      by_cases hlt : k < xs.length
      · have hlt2 : k < ys.length := by have := HL.out; omega
        obtain ⟨b, o, rfl, hc⟩ := (HA.out wr hbel).int hlt
        obtain ⟨b', o', rfl, hc'⟩ := (HB.out wr hbel).int hlt2
        have c1 := hc k hlt
        have c2 := hc' k hlt2
        have b0 : (0 : Int) ≤ (k : Int) := by omega
        have b1 : (k : Int) < (xs.length : Int) := by omega
        have b2 : (k : Int) < (ys.length : Int) := by omega
        clear hc hc' hbel
        by_cases hx : xs.getD k 0 = ys.getD k 0
        · have HN := Lib.hid (show ∀ j, j < k + 1 → xs.getD j 0 = ys.getD j 0 from fun j hj => by
            rcases Nat.lt_succ_iff_lt_or_eq.1 hj with h | h
            · exact HALL.out j h
            · rw [h]; exact hx)
          rw [← hx] at c2
          clear hx
          generalize xs.getD k 0 = x at *
          have hne : (x != x) = false := by rw [bne_self_eq_false]
          go_wp2_with fail
          go_quiet (fail)
          go_wp2_with fail
          go_roundw
          case rel => exact ⟨k + 1, by omega, by go_num, HN.out, below_drewN' HZ.out _⟩
          case measure => simp [intOf]; omega
        · have HN := Lib.hid (same_no HL.out hlt hx)
          have hne : (xs.getD k 0 != ys.getD k 0) = true := by rw [bne_iff_ne]; exact hx
          clear hx
          generalize xs.getD k 0 = x at *
          generalize ys.getD k 0 = y at *
          go_wp2_with fail
          go_quiet (fail)
          go_wp2_with fail
          go_ret
          exact ⟨by rw [HN.out]; rfl, below_drewN' HZ.out _⟩
      · obtain rfl : k = xs.length := by omega
        have HE := Lib.hid (same_yes HL.out HALL.out)
        clear hbel
        go_wp2_with fail
        go_ret
        exact ⟨by rw [HE.out]; rfl, HZ.out⟩
  · have hl' : ((xs.length : Int) == (ys.length : Int)) = false := by rw [beq_eq_false_iff_ne]; omega
    have hl'' : ((xs.length : Int) != (ys.length : Int)) = true := by rw [bne_iff_ne]; omega
    have HE := Lib.hid (same_len hl)
    clear hl hA hB
    go_enter Tryz.func232, Tryz.ntmps232
    go_wp2_with fail
    go_ret
    exact ⟨by rw [HE.out]; rfl, Below.refl _ _⟩

set_option maxRecDepth 100000 in
set_option maxHeartbeats 2000000 in
theorem equalI_any (A B : Option Addr) (c d : Nat) (xs ys : List Int) (w : World) (hn : xs.length ≤ 16777216) (hm : ys.length ≤ 16777216) (hA : Cells w A (ints xs)) (hB : Cells w B (ints ys)) :
    Calls Tryz.prog 185 #[.slice A xs.length c, .slice B ys.length d] w fun e w' => e = .returned (.bool (sameI xs ys)) ∧ Below w.heap.size w w' := by
  by_cases hl : xs.length = ys.length
  · have hl' : ((xs.length : Int) == (ys.length : Int)) = true := by simp [hl]
    have hl'' : ((xs.length : Int) != (ys.length : Int)) = false := by simp [hl]
    have HL := Lib.hid hl
    have HA := Lib.hid (show ∀ W, Below w.heap.size w W → Cells W A (ints xs) from fun W hb => hA.below hb)
    have HB := Lib.hid (show ∀ W, Below w.heap.size w W → Cells W B (ints ys) from fun W hb => hB.below hb)
    clear hl hA hB
    go_enter Tryz.func185, Tryz.ntmps185
    go_wp2_with fail
    go_loopw [13] (fun i wr => ∃ k : Nat, k ≤ xs.length ∧ i = .int .i64 k ∧ (∀ j, j < k → xs.getD j 0 = ys.getD j 0) ∧ Below w.heap.size w wr) (fun i _ => xs.length - (intOf i).toNat)
    case atStart => exact ⟨0, Nat.zero_le _, rfl, fun j hj => by omega, Below.refl _ _⟩
    case round =>
      obtain ⟨k, hk, rfl, hall, hbel⟩ := hrel
      have HALL := Lib.hid hall
      have HZ := Lib.hid hbel
      clear hall
      by_cases hlt : k < xs.length
      · have hlt2 : k < ys.length := by have := HL.out; omega
        obtain ⟨b, o, rfl, hc⟩ := (HA.out wr hbel).int hlt
        obtain ⟨b', o', rfl, hc'⟩ := (HB.out wr hbel).int hlt2
        have c1 := hc k hlt
        have c2 := hc' k hlt2
        have b0 : (0 : Int) ≤ (k : Int) := by omega
        have b1 : (k : Int) < (xs.length : Int) := by omega
        have b2 : (k : Int) < (ys.length : Int) := by omega
        clear hc hc' hbel
        by_cases hx : xs.getD k 0 = ys.getD k 0
        · have HN := Lib.hid (show ∀ j, j < k + 1 → xs.getD j 0 = ys.getD j 0 from fun j hj => by
            rcases Nat.lt_succ_iff_lt_or_eq.1 hj with h | h
            · exact HALL.out j h
            · rw [h]; exact hx)
          rw [← hx] at c2
          clear hx
          generalize xs.getD k 0 = x at *
          have hne : (x != x) = false := by rw [bne_self_eq_false]
          go_wp2_with fail
          go_quiet (fail)
          go_wp2_with fail
          go_roundw
          case rel => exact ⟨k + 1, by omega, by go_num, HN.out, below_drewN' HZ.out _⟩
          case measure => simp [intOf]; omega
        · have HN := Lib.hid (same_no HL.out hlt hx)
          have hne : (xs.getD k 0 != ys.getD k 0) = true := by rw [bne_iff_ne]; exact hx
          clear hx
          generalize xs.getD k 0 = x at *
          generalize ys.getD k 0 = y at *
          go_wp2_with fail
          go_quiet (fail)
          go_wp2_with fail
          go_ret
          exact ⟨by rw [HN.out]; rfl, below_drewN' HZ.out _⟩
      · obtain rfl : k = xs.length := by omega
        have HE := Lib.hid (same_yes HL.out HALL.out)
        clear hbel
        go_wp2_with fail
        go_ret
        exact ⟨by rw [HE.out]; rfl, HZ.out⟩
  · have hl' : ((xs.length : Int) == (ys.length : Int)) = false := by rw [beq_eq_false_iff_ne]; omega
    have hl'' : ((xs.length : Int) != (ys.length : Int)) = true := by rw [bne_iff_ne]; omega
    have HE := Lib.hid (same_len hl)
    clear hl hA hB
    go_enter Tryz.func185, Tryz.ntmps185
    go_wp2_with fail
    go_ret
    exact ⟨by rw [HE.out]; rfl, Below.refl _ _⟩

end Go.Proofs.YtijkdpdmclkmlaaGreatDoor
