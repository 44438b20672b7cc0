/- Whether a slice of ints has a number: program and reference walked. Labelled systems marked and asked for the mark. -/
import Derived.Test.YtmnnbgciakigfaaDoorProg
import Derived.Test.YtmnnbgciakigfaaDoorMark
set_option linter.unusedVariables false
namespace Go.Proofs.YtmnnbgciakigfaaDoor
open Go.RowKit

def hasI (xs : List Int) (d : Int) : Bool := xs.contains d

theorem hasI_no {xs : List Int} {d : Int} (h : ∀ j, j < xs.length → (xs.getD j 0 == d) = false) : hasI xs d = false := by
  unfold hasI
  rw [← Bool.not_eq_true, List.contains_iff_mem]
  intro hm
  obtain ⟨j, hj, e⟩ := List.getElem_of_mem hm
  have := h j hj
  simp [List.getD, hj, e] at this
theorem hasI_yes {xs : List Int} {d : Int} {j : Nat} (h : j < xs.length) (e : (xs.getD j 0 == d) = true) : hasI xs d = true := by
  unfold hasI
  rw [List.contains_iff_mem]
  simp [List.getD, h] at e
  rw [← e]
  exact List.getElem_mem _

set_option maxHeartbeats 1000000 in
theorem l1Has_any (A : Option Addr) (c : Nat) (xs : List Int) (d : Int) (w : World) (hn : xs.length ≤ 16777216) (hA : Cells w A (ints xs)) :
    Calls Tryd.prog 50 #[.slice A xs.length c, .int .i64 d] w fun e w' => e = .returned (.bool (hasI xs d)) ∧ w = w' := by
  go_enter Tryd.func50, Tryd.ntmps50
  go_wp2
  go_loop [5] (fun i => ∃ k : Nat, k ≤ xs.length ∧ i = .int .i64 k ∧ ∀ j, j < k → (xs.getD j 0 == d) = false) (fun i => xs.length - (intOf i).toNat)
  case atStart => exact ⟨0, Nat.zero_le _, rfl, fun j hj => by omega⟩
  case round =>
    obtain ⟨k, hk, rfl, hall⟩ := hrel
    by_cases hlt : k < xs.length
    · obtain ⟨b, o, rfl, hc⟩ := hA.int hlt
      have c0 := hc k hlt
      have HALL := Lib.hid hall
      cases he : (xs.getD k 0 == d)
      · have HN := Lib.hid (show ∀ j, j < k + 1 → (xs.getD j 0 == d) = false from fun j hj => by
          rcases Nat.lt_succ_iff_lt_or_eq.1 hj with h' | h'
          · exact HALL.out j h'
          · rw [h']; exact he)
        clear hc hA hall
        generalize xs.getD k 0 = y at *
        go_wp2_with fail
        go_round
        case rel => exact ⟨k + 1, by omega, by go_num, HN.out⟩
        case measure => simp [intOf]; omega
      · have HY := Lib.hid (hasI_yes hlt he)
        clear hc hA hall
        generalize xs.getD k 0 = y at *
        have he2 : y = d := by simpa using he
        go_wp2_with fail
        go_ret
        exact ⟨by rw [HY.out]; rfl, rfl⟩
    · obtain rfl : k = xs.length := by omega
      have HF := Lib.hid (hasI_no hall)
      clear hall
      go_wp2_with fail
      go_ret
      exact ⟨by rw [HF.out]; rfl, rfl⟩

set_option maxHeartbeats 1000000 in
theorem index_any (A : Option Addr) (c : Nat) (xs : List Int) (d : Int) (w : World) (hn : xs.length ≤ 16777216) (hA : Cells w A (ints xs)) :
    Calls Tryd.prog 44 #[.slice A xs.length c, .int .i64 d] w fun e w' => (∃ k : Int, e = .returned (.int .i64 k) ∧ decide (0 ≤ k) = hasI xs d) ∧ w = w' := by
  go_enter Tryd.func44, Tryd.ntmps44
  go_wp2
  go_loop [8] (fun i => ∃ k : Nat, k ≤ xs.length ∧ i = .int .i64 k ∧ ∀ j, j < k → (xs.getD j 0 == d) = false) (fun i => xs.length - (intOf i).toNat)
  case atStart => exact ⟨0, Nat.zero_le _, rfl, fun j hj => by omega⟩
  case round =>
    obtain ⟨k, hk, rfl, hall⟩ := hrel
    by_cases hlt : k < xs.length
    · obtain ⟨b, o, rfl, hc⟩ := hA.int hlt
      have c0 := hc k hlt
      have HALL := Lib.hid hall
      cases he : (xs.getD k 0 == d)
      · have HN := Lib.hid (show ∀ j, j < k + 1 → (xs.getD j 0 == d) = false from fun j hj => by
          rcases Nat.lt_succ_iff_lt_or_eq.1 hj with h' | h'
          · exact HALL.out j h'
          · rw [h']; exact he)
        clear hc hA hall
        generalize xs.getD k 0 = y at *
        go_wp2_with fail
        go_round
        case rel => exact ⟨k + 1, by omega, by go_num, HN.out⟩
        case measure => simp [intOf]; omega
      · have HY := Lib.hid (hasI_yes hlt he)
        clear hc hA hall
        generalize xs.getD k 0 = y at *
        have he2 : y = d := by simpa using he
        go_wp2_with fail
        go_ret
        exact ⟨⟨_, rfl, by rw [HY.out]; simp⟩, rfl⟩
    · obtain rfl : k = xs.length := by omega
      have HF := Lib.hid (hasI_no hall)
      clear hall
      go_wp2_with fail
      go_ret
      exact ⟨⟨_, rfl, by rw [HF.out]; rfl⟩, rfl⟩

set_option maxHeartbeats 1000000 in
theorem contains_any (A : Option Addr) (c : Nat) (xs : List Int) (d : Int) (w : World) (hn : xs.length ≤ 16777216) (hA : Cells w A (ints xs)) :
    Calls Tryd.prog 21 #[.slice A xs.length c, .int .i64 d] w fun e w' => e = .returned (.bool (hasI xs d)) ∧ w = w' := by
  have H := Lib.hid (index_any A c xs d w hn hA)
  go_enter Tryd.func21, Tryd.ntmps21
  go_wp2_with fail
  refine H.out.mono ?_
  rintro e w1 ⟨⟨k, rfl, hk⟩, rfl⟩
  have HK := Lib.hid hk
  clear hk
  go_wp2_with fail
  go_ret
  exact ⟨by rw [← HK.out]; rfl, rfl⟩

theorem Own.in_ {w : World} {S : Nat → Prop} {v : Value} {n : Nat} {cs : List Value} (h : Own w S v n cs) : Own w (fun b => S b ∧ b < w.heap.size) v n cs := by
  obtain ⟨A, c, e, h⟩ := h
  refine ⟨A, c, e, ?_⟩
  by_cases hn : cs = []
  · exact .inl hn
  · rcases h with h | ⟨g, o, rfl, hg, hc⟩
    · exact absurd h hn
    · refine .inr ⟨g, o, rfl, ⟨hg, ?_⟩, hc⟩
      have hl : 0 < cs.length := by cases cs with | nil => exact absurd rfl hn | cons _ _ => simp
      exact lt_of_cell (hc 0 _ (List.getElem?_eq_getElem hl)).1

theorem OwnSS.in_ {w : World} {S : Nat → Prop} {v : Value} {xss : List (List Int)} (h : OwnSS w S v xss) : OwnSS w (fun b => S b ∧ b < w.heap.size) v xss := by
  obtain ⟨vs, S0, T, h0, hl, hi, a1, a2, a3⟩ := h
  exact ⟨vs, fun b => S0 b ∧ b < w.heap.size, fun i b => T i b ∧ b < w.heap.size, h0.in_, hl, fun i u xs h1 h2 => (hi i u xs h1 h2).in_, fun b hb => ⟨a1 b hb.1, hb.2⟩, fun i b hb => ⟨⟨(a2 i b hb.1).1, hb.2⟩, fun k => (a2 i b hb.1).2 k.1⟩, fun i j b h1 h2 => a3 i j b h1.1 h2.1⟩

end Go.Proofs.YtmnnbgciakigfaaDoor
