/- Whether a slice of ints has a number: program and reference walked. Labelled systems marked and asked for the mark. -/
import Derived.Test.YtdgnhfhaaghoaaaGreatDoorProg
import Derived.Test.YtdgnhfhaaghoaaaGreatDoorJ20
set_option linter.unusedVariables false
namespace Go.Proofs.YtdgnhfhaaghoaaaGreatDoor
open Go.RowKit

def hasI (xs : List Int) (d : Int) : Bool := xs.contains d

theorem hasI_no {xs : List Int} {d : Int} (h : ∀ j, j < xs.length → (xs.getD j 0 == d) = false) : hasI xs d = false := by
  unfold hasI
  rw [← Bool.not_eq_true, List.contains_iff_mem]
  intro hm
  obtain ⟨j, hj, e⟩ := List.getElem_of_mem hm
  have := h j hj
  simp [List.getD, hj, e] at this
theorem hasI_yes {xs : List Int} {d : Int} {j : Nat} (h : j < xs.length) (e : (xs.getD j 0 == d) = true) : hasI xs d = true := by
  unfold hasI
  rw [List.contains_iff_mem]
  simp [List.getD, h] at e
  rw [← e]
  exact List.getElem_mem _

set_option maxHeartbeats 1000000 in
theorem l1Has_any (A : Option Addr) (c : Nat) (xs : List Int) (d : Int) (w : World) (hn : xs.length ≤ 16777216) (hA : Cells w A (ints xs)) :
    Calls Tryz.prog 151 #[.slice A xs.length c, .int .i64 d] w fun e w' => e = .returned (.bool (hasI xs d)) ∧ w = w' := by
  go_enter Tryz.func151, Tryz.ntmps151
  go_wp2
  go_loop [5] (fun i => ∃ k : Nat, k ≤ xs.length ∧ i = .int .i64 k ∧ ∀ j, j < k → (xs.getD j 0 == d) = false) (fun i => xs.length - (intOf i).toNat)
  case atStart => exact ⟨0, Nat.zero_le _, rfl, fun j hj => by omega⟩
  case round =>
    obtain ⟨k, hk, rfl, hall⟩ := hrel
    by_cases hlt : k < xs.length
    · obtain ⟨b, o, rfl, hc⟩ := hA.int hlt
      have c0 := hc k hlt
      have HALL := Lib.hid hall
      cases he : (xs.getD k 0 == d)
      · have HN := Lib.hid (show ∀ j, j < k + 1 → (xs.getD j 0 == d) = false from fun j hj => by
          rcases Nat.lt_succ_iff_lt_or_eq.1 hj with h' | h'
          · exact HALL.out j h'
          · rw [h']; exact he)
        clear hc hA hall
        generalize xs.getD k 0 = y at *
        go_wp2_with fail
        go_round
        case rel => exact ⟨k + 1, by omega, by go_num, HN.out⟩
        case measure => simp [intOf]; omega
      · have HY := Lib.hid (hasI_yes hlt he)
        clear hc hA hall
        generalize xs.getD k 0 = y at *
        have he2 : y = d := by simpa using he
        go_wp2_with fail
        go_ret
        exact ⟨by rw [HY.out]; rfl, rfl⟩
    · obtain rfl : k = xs.length := by omega
      have HF := Lib.hid (hasI_no hall)
      clear hall
      go_wp2_with fail
      go_ret
      exact ⟨by rw [HF.out]; rfl, rfl⟩

set_option maxHeartbeats 1000000 in
theorem index_any (A : Option Addr) (c : Nat) (xs : List Int) (d : Int) (w : World) (hn : xs.length ≤ 16777216) (hA : Cells w A (ints xs)) :
    Calls Tryz.prog 88 #[.slice A xs.length c, .int .i64 d] w fun e w' => (∃ k : Int, e = .returned (.int .i64 k) ∧ decide (0 ≤ k) = hasI xs d) ∧ w = w' := by
  go_enter Tryz.func88, Tryz.ntmps88
  go_wp2
  go_loop [8] (fun i => ∃ k : Nat, k ≤ xs.length ∧ i = .int .i64 k ∧ ∀ j, j < k → (xs.getD j 0 == d) = false) (fun i => xs.length - (intOf i).toNat)
  case atStart => exact ⟨0, Nat.zero_le _, rfl, fun j hj => by omega⟩
  case round =>
    obtain ⟨k, hk, rfl, hall⟩ := hrel
    by_cases hlt : k < xs.length
    · obtain ⟨b, o, rfl, hc⟩ := hA.int hlt
      have c0 := hc k hlt
      have HALL := Lib.hid hall
      cases he : (xs.getD k 0 == d)
      · have HN := Lib.hid (show ∀ j, j < k + 1 → (xs.getD j 0 == d) = false from fun j hj => by
          rcases Nat.lt_succ_iff_lt_or_eq.1 hj with h' | h'
          · exact HALL.out j h'
          · rw [h']; exact he)
        clear hc hA hall
        generalize xs.getD k 0 = y at *
        go_wp2_with fail
        go_round
        case rel => exact ⟨k + 1, by omega, by go_num, HN.out⟩
        case measure => simp [intOf]; omega
      · have HY := Lib.hid (hasI_yes hlt he)
        clear hc hA hall
        generalize xs.getD k 0 = y at *
        have he2 : y = d := by simpa using he
        go_wp2_with fail
        go_ret
        exact ⟨⟨_, rfl, by rw [HY.out]; simp⟩, rfl⟩
    · obtain rfl : k = xs.length := by omega
      have HF := Lib.hid (hasI_no hall)
      clear hall
      go_wp2_with fail
      go_ret
      exact ⟨⟨_, rfl, by rw [HF.out]; rfl⟩, rfl⟩

set_option maxHeartbeats 1000000 in
theorem contains_any (A : Option Addr) (c : Nat) (xs : List Int) (d : Int) (w : World) (hn : xs.length ≤ 16777216) (hA : Cells w A (ints xs)) :
    Calls Tryz.prog 139 #[.slice A xs.length c, .int .i64 d] w fun e w' => e = .returned (.bool (hasI xs d)) ∧ w = w' := by
  have H := Lib.hid (index_any A c xs d w hn hA)
  go_enter Tryz.func139, Tryz.ntmps139
  go_wp2_with fail
  refine H.out.mono ?_
  rintro e w1 ⟨⟨k, rfl, hk⟩, rfl⟩
  have HK := Lib.hid hk
  clear hk
  go_wp2_with fail
  go_ret
  exact ⟨by rw [← HK.out]; rfl, rfl⟩

theorem Own.in_ {w : World} {S : Nat → Prop} {v : Value} {n : Nat} {cs : List Value} (h : Own w S v n cs) : Own w (fun b => S b ∧ b < w.heap.size) v n cs := by
  obtain ⟨A, c, e, h⟩ := h
  refine ⟨A, c, e, ?_⟩
  by_cases hn : cs = []
  · exact .inl hn
  · rcases h with h | ⟨g, o, rfl, hg, hc⟩
    · exact absurd h hn
    · refine .inr ⟨g, o, rfl, ⟨hg, ?_⟩, hc⟩
      have hl : 0 < cs.length := by cases cs with | nil => exact absurd rfl hn | cons _ _ => simp
      exact lt_of_cell (hc 0 _ (List.getElem?_eq_getElem hl)).1

theorem OwnSS.in_ {w : World} {S : Nat → Prop} {v : Value} {xss : List (List Int)} (h : OwnSS w S v xss) : OwnSS w (fun b => S b ∧ b < w.heap.size) v xss := by
  obtain ⟨vs, S0, T, h0, hl, hi, a1, a2, a3⟩ := h
  exact ⟨vs, fun b => S0 b ∧ b < w.heap.size, fun i b => T i b ∧ b < w.heap.size, h0.in_, hl, fun i u xs h1 h2 => (hi i u xs h1 h2).in_, fun b hb => ⟨a1 b hb.1, hb.2⟩, fun i b hb => ⟨⟨(a2 i b hb.1).1, hb.2⟩, fun k => (a2 i b hb.1).2 k.1⟩, fun i j b h1 h2 => a3 i j b h1.1 h2.1⟩

set_option maxHeartbeats 1000000 in
theorem markLabelled_any (S : Nat → Prop) (v : Value) (l : Lab) (k : Int) (w : World) (hs : SmallLab l) (hk0 : 0 ≤ k) (hk1 : k + sizeLab l ≤ 1099511627776) (hv : OwnLab w S v l) :
    Calls Tryz.prog 21 #[v, .int .i64 k] w fun e w' => e = .returned (.int .i64 (k + sizeLab l)) ∧ OwnLab w' S v (markLab k l) ∧ Kept S w w' := by
  obtain ⟨sv, tv, S1, S2, rfl, h1, h2, a1, a2, a3⟩ := hv
  unfold sizeLab at hk1 ⊢
  have hal : ∀ o, Below w.heap.size w (w.alloc o) := fun o => (Below.refl _ _).alloc (Nat.le_refl _) o
  have H1 := Lib.hid (fun o => markIntSS_any _ sv l.shows k (w.alloc o) hs.1 hs.2.2 hk0 (by omega) (h1.in_.below (hal o) (Nat.le_refl _)))
  have h2i := h2.in_
  clear h1 h2
  go_enter Tryz.func21, Tryz.ntmps21
  go_wp2_with fail
  refine (H1.out _).mono ?_
  rintro e w1 ⟨rfl, ho1, hk1'⟩
  have hbx := hk1'.block w.heap.size (by simp) (by intro h; have := h.2; omega)
  rw [heap_alloc_new] at hbx
  have q0 := cell_of_row w1 _ 0 _ _ _ hbx
  have q1 := cell_of_row w1 _ 1 _ _ _ hbx
  have h21 := ((h2i.below (hal (.cells #[sv, tv] 27)) (Nat.le_refl _)).kept hk1' (fun b hb h => a3 b h.1 hb.1))
  have H2 := Lib.hid (markIntA3S_any _ tv l.steps (k + (total l.shows : Nat)) w1 hs.2.1 (by omega) (by omega) h21)
  have HO1 := Lib.hid ho1
  have HK1 := Lib.hid hk1'
  have HI := Lib.hid h2i
  clear ho1 hk1' hbx h21 h2i
  go_wp2_with fail
  refine H2.out.mono ?_
  rintro e w2 ⟨rfl, ho2, hk2⟩
  have HO2 := Lib.hid ho2
  have HK2 := Lib.hid hk2
  clear ho2 hk2
  go_wp2_with fail
  go_ret
  refine ⟨?_, ?_, ?_⟩
  · show Ending.returned (Value.int .i64 (k + (total l.shows : Nat) + 3 * (l.steps.length : Int))) = _
    rw [Int.add_assoc]
  · refine ⟨sv, tv, fun b => S1 b ∧ b < w.heap.size, fun b => S2 b ∧ b < w.heap.size, rfl, HO1.out.kept HK2.out (fun b hb h => a3 b hb.1 h.1), ?_, fun b hb => a1 b hb.1, fun b hb => a2 b hb.1, fun b hb h => a3 b hb.1 h.1⟩
    show Own w2 _ tv (trips (k + (total l.shows : Nat)) l.steps.length).length ((trips (k + (total l.shows : Nat)) l.steps.length).flatMap tri)
    rw [trips_length]
    exact HO2.out
  · exact ((Kept.of_below (hal _) S).trans (HK1.out.mono (fun b hb => a1 b hb.1))).trans (HK2.out.mono (fun b hb => a2 b hb.1))

end Go.Proofs.YtdgnhfhaaghoaaaGreatDoor
