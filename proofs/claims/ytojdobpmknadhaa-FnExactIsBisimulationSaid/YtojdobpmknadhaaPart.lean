/- Whether all elements of a list are in another one: program and reference walked. -/
import Derived.Test.YtojdobpmknadhaaProg
import Derived.Test.YtojdobpmknadhaaHas
import Derived.Test.YtojdobpmknadhaaRise
import Derived.Test.YtojdobpmknadhaaSIntF
import Derived.Test.YtojdobpmknadhaaIsLab
set_option linter.unusedVariables false
namespace Go.Proofs.Ytojdobpmknadhaa
open Go.RowKit

def partB (a b : List Int) : Bool := allR a.length fun k => hasI b (a.getD k 0)

set_option maxRecDepth 100000 in
set_option maxHeartbeats 1000000 in
theorem l7Part_any (A B : Option Addr) (c d : Nat) (xs ys : List Int) (w : World) (hn : xs.length ≤ 16777216) (hm : ys.length ≤ 16777216) (hA : Cells w A (ints xs)) (hB : Cells w B (ints ys)) :
    Calls Try.prog 75 #[.slice A xs.length c, .slice B ys.length d] w fun e w' => e = .returned (.bool (partB xs ys)) ∧ w = w' := by
  have H := Lib.hid (fun x => l1Has_any B d ys x w hm hB)
  go_enter Try.func75, Try.ntmps75
  go_wp2_with fail
  go_loop [5] (fun i => ∃ k : Nat, k ≤ xs.length ∧ i = .int .i64 k ∧ ∀ j, j < k → hasI ys (xs.getD j 0) = true) (fun i => xs.length - (intOf i).toNat)
  case atStart => exact ⟨0, Nat.zero_le _, rfl, fun j hj => by omega⟩
  case round =>
    obtain ⟨k, hk, rfl, hall⟩ := hrel
    have HALL := Lib.hid hall
    clear hall
    by_cases hlt : k < xs.length
    · obtain ⟨b, o, rfl, hcl⟩ := hA.int hlt
      have ck := hcl k hlt
      have HN := Lib.hid (show hasI ys (xs.getD k 0) = true → ∀ j, j < k + 1 → hasI ys (xs.getD j 0) = true from fun h j hj => by
        rcases Nat.lt_succ_iff_lt_or_eq.1 hj with h' | h'
        · exact HALL.out j h'
        · rw [h']; exact h)
      have HF := Lib.hid (show hasI ys (xs.getD k 0) = false → partB xs ys = false from fun h => allR_false hlt h)
      have HX := Lib.hid (H.out (xs.getD k 0))
      have b0 : (0 : Int) ≤ (k : Int) := by omega
      have b1 : (k : Int) < (xs.length : Int) := by omega
      clear hcl hA hB
      generalize xs.getD k 0 = y at *
      cases hh : hasI ys y
      · rw [hh] at HX
        have HF2 := Lib.hid (HF.out hh)
        clear hh HF HN
        go_wp2_with fail
        refine HX.out.mono ?_
        rintro e w1 ⟨rfl, rfl⟩
        go_wp2_with fail
        go_ret
        exact ⟨by rw [HF2.out]; rfl, rfl⟩
      · rw [hh] at HX
        have HN2 := Lib.hid (HN.out hh)
        clear hh HF HN
        go_wp2_with fail
        refine HX.out.mono ?_
        rintro e w1 ⟨rfl, rfl⟩
        go_wp2_with fail
        go_round
        case rel => exact ⟨k + 1, by omega, by go_num, HN2.out⟩
        case measure => simp [intOf]; omega
    · obtain rfl : k = xs.length := by omega
      have HT := Lib.hid (show partB xs ys = true from allR_true HALL.out)
      go_wp2_with fail
      go_ret
      exact ⟨by rw [HT.out]; rfl, rfl⟩

set_option maxRecDepth 100000 in
set_option maxHeartbeats 1000000 in
theorem isPart1_any (B : Option Addr) (d : Nat) (ys : List Int) (x : Int) (a : Nat) (w : World) (hm : ys.length ≤ 16777216) (ha : w.cell? ⟨a, 0, none⟩ = some (.slice B ys.length d)) (hB : Cells w B (ints ys)) :
    Calls Try.prog 77 #[.int .i64 x, .pointer (some ⟨a, 0, none⟩)] w fun e w' => e = .returned (.bool (!hasI ys x)) ∧ Below w.heap.size w w' := by
  have H := Lib.hid (contains_any B d ys x w hm hB)
  clear hB
  go_enter Try.func77, Try.ntmps77
  go_wp2_with fail
  refine H.out.mono ?_
  rintro e w1 ⟨rfl, rfl⟩
  go_wp2_with fail
  go_ret
  exact ⟨rfl, Below.refl _ _⟩

set_option maxRecDepth 100000 in
set_option maxHeartbeats 1000000 in
theorem isPart_any (A B : Option Addr) (c d : Nat) (xs ys : List Int) (w : World) (hn : xs.length ≤ 16777216) (hm : ys.length ≤ 16777216) (hA : Cells w A (ints xs)) (hB : Cells w B (ints ys)) :
    Calls Try.prog 42 #[.slice A xs.length c, .slice B ys.length d] w fun e w' => e = .returned (.bool (partB xs ys)) ∧ Below w.heap.size w w' := by
  have hal : Below w.heap.size w (w.alloc (.cells #[.slice B ys.length d] 53)) := (Below.refl _ _).alloc (Nat.le_refl _) _
  have hc : (w.alloc (.cells #[.slice B ys.length d] 53)).cell? ⟨w.heap.size, 0, none⟩ = some (.slice B ys.length d) := cell_of_row _ _ _ _ _ _ (heap_alloc_new _ _)
  have H := Lib.hid (containsFuncI_any A c xs 77 #[.pointer (some ⟨w.heap.size, 0, none⟩)] (fun k => !hasI ys (xs.getD k 0)) _ hn (hA.below hal) (enter_of Try.func77 (by kernel_rfl) (by kernel_rfl)) (fun k W hk hb => isPart1_any B d ys (xs.getD k 0) w.heap.size W hm (cell_below hb hc (lt_of_cell hc)) ((hB.below hal).below hb)))
  have HE := Lib.hid (show (!anyR xs.length fun k => !hasI ys (xs.getD k 0)) = partB xs ys from any_not _ _ _ (fun k _ => rfl))
  have HB := Lib.hid hal
  clear hal hc hA hB
  go_enter Try.func42, Try.ntmps42
  go_wp2_with fail
  refine H.out.mono ?_
  rintro e w1 ⟨rfl, hb1⟩
  go_wp2_with fail
  go_ret
  exact ⟨by rw [← HE.out]; rfl, HB.out.trans (hb1.mono HB.out.size)⟩

end Go.Proofs.Ytojdobpmknadhaa
