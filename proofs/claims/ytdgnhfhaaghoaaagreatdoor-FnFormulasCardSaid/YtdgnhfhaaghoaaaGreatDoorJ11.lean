/- The walks of the two functions that find the end of a formula: program and reference. Conditions: the slice's cells are readable. -/
import Derived.Test.YtdgnhfhaaghoaaaGreatDoorProg
import Derived.WalkKit
import Derived.WalkSpells
import Derived.WalkLawsBesides
import Derived.Lib.Hide
import Derived.BigQuiet
import Derived.Deep.QuietTactic
set_option linter.unusedSimpArgs false
set_option linter.unusedVariables false
namespace Go.Proofs.YtdgnhfhaaghoaaaGreatDoor
open Go.RowKit

def inB (n lo hi : Int) : Bool := decide (lo ≤ n) && decide (n ≤ hi)

theorem inB_true {n lo hi : Int} (h : inB n lo hi = true) : lo ≤ n ∧ n ≤ hi := by simpa [inB] using h
set_option maxHeartbeats 400000 in
theorem within_any (n lo hi : Int) (w : World) :
    Calls Tryz.prog 75 #[.int .i64 n, .int .i64 lo, .int .i64 hi] w fun e w' => e = .returned (.bool (inB n lo hi)) ∧ w = w' := by
  unfold inB
  go_enter Tryz.func75, Tryz.ntmps75
  go_wp2
  all_goals go_ret
  all_goals exact ⟨by simp [*]; try omega, rfl⟩

set_option maxHeartbeats 400000 in
theorem l1In_any (n lo hi : Int) (w : World) :
    Calls Tryz.prog 112 #[.int .i64 n, .int .i64 lo, .int .i64 hi] w fun e w' => e = .returned (.bool (inB n lo hi)) ∧ w = w' := by
  unfold inB
  go_enter Tryz.func112, Tryz.ntmps112
  go_wp2
  all_goals go_ret
  all_goals exact ⟨by simp [*]; try omega, rfl⟩

/-- A slice of ints that reads as a list: nil too. -/
def Ints (w : World) (A : Option Addr) (xs : List Int) : Prop :=
  ∀ j, j < xs.length → ∃ b o, A = some ⟨b, o, none⟩ ∧ w.cell? ⟨b, o + j, none⟩ = some (.int .i64 (xs.getD j 0))

/-- The place behind the formula at a place. -/
def fEnd : Nat → List Int → Int → Int
  | 0, _, _ => -1
  | n + 1, f, p =>
    if p < 0 ∨ (f.length : Int) ≤ p then -1
    else if f.getD p.toNat 0 == 0 then p + 1
    else if f.getD p.toNat 0 == 1 then (if decide (p + 1 < f.length) && inB (f.getD (p + 1).toNat 0) 0 7 then p + 2 else -1)
    else if f.getD p.toNat 0 == 2 then fEnd n f (p + 1)
    else if f.getD p.toNat 0 == 3 then fEnd n f (fEnd n f (p + 1))
    else if f.getD p.toNat 0 == 4 then (if decide (p + 1 < f.length) && inB (f.getD (p + 1).toNat 0) 0 7 then fEnd n f (p + 2) else -1)
    else -1

theorem fEnd_neg (n : Nat) (f : List Int) (p : Int) (h : p < 0) : fEnd n f p = -1 := by
  cases n with
  | zero => rfl
  | succ n => unfold fEnd; rw [if_pos (.inl h)]

theorem fEnd_bd (n : Nat) (f : List Int) : ∀ p, fEnd n f p = -1 ∨ (p < fEnd n f p ∧ fEnd n f p ≤ f.length) := by
  induction n with
  | zero => intro p; exact .inl rfl
  | succ n ih =>
    intro p
    unfold fEnd
    have h1 := ih (p + 1)
    have h2 := ih (fEnd n f (p + 1))
    have h3 := ih (p + 2)
    split
    · exact .inl rfl
    · split
      · right; omega
      · split
        · split
          · rename_i hh
            simp only [Bool.and_eq_true, decide_eq_true_eq] at hh
            right; omega
          · exact .inl rfl
        · split
          · omega
          · split
            · rcases h1 with h1 | h1
              · left; exact fEnd_neg n f _ (by omega)
              · omega
            · split
              · split
                · omega
                · exact .inl rfl
              · exact .inl rfl

theorem fEnd_eq (n : Nat) (f : List Int) (k : Nat) (hk : k < f.length) : fEnd (n + 1) f k =
    if f.getD k 0 == 0 then (k : Int) + 1
    else if f.getD k 0 == 1 then (if decide ((k : Int) + 1 < f.length) && inB (f.getD (k + 1) 0) 0 7 then (k : Int) + 2 else -1)
    else if f.getD k 0 == 2 then fEnd n f ((k : Int) + 1)
    else if f.getD k 0 == 3 then fEnd n f (fEnd n f ((k : Int) + 1))
    else if f.getD k 0 == 4 then (if decide ((k : Int) + 1 < f.length) && inB (f.getD (k + 1) 0) 0 7 then fEnd n f ((k : Int) + 2) else -1)
    else -1 := by
  rw [fEnd, if_neg (by omega)]
  rw [show ((k : Int) + 1).toNat = k + 1 by omega, Int.toNat_natCast]

set_option maxHeartbeats 1000000 in
theorem formulaEnd_any (A : Option Addr) (c : Nat) (f : List Int) (hf : f.length ≤ 1048576) (w : World) (hA : Ints w A f) :
    ∀ (n : Nat) (p : Int), (p < 0 ∨ (f.length : Int) ≤ p + n) → -1 ≤ p → p ≤ 1048580 →
    Calls Tryz.prog 76 #[.slice A f.length c, .int .i64 p] w fun e w' => e = .returned (.int .i64 (fEnd n f p)) ∧ w = w' := by
  intro n
  induction n with
  | zero =>
    intro p h0 h1 h2
    unfold fEnd
    by_cases hp : p < 0
    · go_enter Tryz.func76, Tryz.ntmps76
      go_wp2
      go_ret
      exact ⟨rfl, rfl⟩
    · have hq : (f.length : Int) ≤ p := by omega
      go_enter Tryz.func76, Tryz.ntmps76
      go_wp2
      go_ret
      exact ⟨rfl, rfl⟩
  | succ n ih =>
    intro p h0 h1 h2
    by_cases hp : p < 0
    · have e : fEnd (n + 1) f p = -1 := by unfold fEnd; rw [if_pos (.inl hp)]
      rw [e]
      go_enter Tryz.func76, Tryz.ntmps76
      go_wp2
      go_ret
      exact ⟨rfl, rfl⟩
    · by_cases hq : (f.length : Int) ≤ p
      · have e : fEnd (n + 1) f p = -1 := by unfold fEnd; rw [if_pos (.inr hq)]
        rw [e]
        go_enter Tryz.func76, Tryz.ntmps76
        go_wp2
        go_ret
        exact ⟨rfl, rfl⟩
      · obtain ⟨k, rfl⟩ := Int.eq_ofNat_of_zero_le (show 0 ≤ p by omega)
        have H := Lib.hid ih
        clear ih
        have hk : k < f.length := by omega
        obtain ⟨b, o, rfl, hc⟩ := hA k hk
        have hc1 : k + 1 < f.length → w.cell? ⟨b, o + (k + 1), none⟩ = some (.int .i64 (f.getD (k + 1) 0)) := fun h => by
          obtain ⟨b', o', e, h'⟩ := hA (k + 1) h
          cases e; exact h'
        have he := fEnd_eq n f k hk
        have hb1 := fEnd_bd n f ((k : Int) + 1)
        have hx := hc
        clear hc hA
        generalize f.getD k 0 = x at hx he
        generalize f.getD (k + 1) 0 = y at hc1 he
        have HE := Lib.hid he
        clear he
        by_cases hk1 : (k : Int) + 1 < f.length
        · have hy := hc1 (by omega)
          clear hc1
          go_enter Tryz.func76, Tryz.ntmps76
          go_wp2_with (first
            | ((with_reducible refine (within_any ..).mono ?_); rintro e w' ⟨rfl, rfl⟩)
            | ((with_reducible refine (H.out _ (by omega) (by omega) (by omega)).mono ?_); rintro e w' ⟨rfl, rfl⟩))
          all_goals (go_ret; refine ⟨congrArg (fun z => Ending.returned (.int .i64 z)) ?_, rfl⟩; rw [HE.out]; clear HE; simp only [*, Bool.false_eq_true, ↓reduceIte, decide_true, decide_false, Bool.true_and, Bool.false_and, ite_self])
        · clear hc1
          have hk2 : decide ((k : Int) + 1 < f.length) = false := by simp; omega
          have HK := Lib.hid hk2
          clear hk2
          go_enter Tryz.func76, Tryz.ntmps76
          go_wp2_with (first
            | ((with_reducible refine (within_any ..).mono ?_); rintro e w' ⟨rfl, rfl⟩)
            | ((with_reducible refine (H.out _ (by omega) (by omega) (by omega)).mono ?_); rintro e w' ⟨rfl, rfl⟩))
          all_goals (go_ret; refine ⟨congrArg (fun z => Ending.returned (.int .i64 z)) ?_, rfl⟩; rw [HE.out]; clear HE; simp only [HK.out, *, Bool.false_eq_true, ↓reduceIte, decide_true, decide_false, Bool.true_and, Bool.false_and, ite_self])

set_option maxHeartbeats 1000000 in
theorem l11End_any (A : Option Addr) (c : Nat) (f : List Int) (hf : f.length ≤ 1048576) (w : World) (hA : Ints w A f) :
    ∀ (n : Nat) (p : Int), (p < 0 ∨ (f.length : Int) ≤ p + n) → -1 ≤ p → p ≤ 1048580 →
    Calls Tryz.prog 145 #[.slice A f.length c, .int .i64 p] w fun e w' => e = .returned (.int .i64 (fEnd n f p)) ∧ w = w' := by
  intro n
  induction n with
  | zero =>
    intro p h0 h1 h2
    unfold fEnd
    by_cases hp : p < 0
    · go_enter Tryz.func145, Tryz.ntmps145
      go_wp2
      go_ret
      exact ⟨rfl, rfl⟩
    · have hq : (f.length : Int) ≤ p := by omega
      go_enter Tryz.func145, Tryz.ntmps145
      go_wp2
      go_ret
      exact ⟨rfl, rfl⟩
  | succ n ih =>
    intro p h0 h1 h2
    by_cases hp : p < 0
    · have e : fEnd (n + 1) f p = -1 := by unfold fEnd; rw [if_pos (.inl hp)]
      rw [e]
      go_enter Tryz.func145, Tryz.ntmps145
      go_wp2
      go_ret
      exact ⟨rfl, rfl⟩
    · by_cases hq : (f.length : Int) ≤ p
      · have e : fEnd (n + 1) f p = -1 := by unfold fEnd; rw [if_pos (.inr hq)]
        rw [e]
        go_enter Tryz.func145, Tryz.ntmps145
        go_wp2
        go_ret
        exact ⟨rfl, rfl⟩
      · obtain ⟨k, rfl⟩ := Int.eq_ofNat_of_zero_le (show 0 ≤ p by omega)
        have H := Lib.hid ih
        clear ih
        have hk : k < f.length := by omega
        obtain ⟨b, o, rfl, hc⟩ := hA k hk
        have hc1 : k + 1 < f.length → w.cell? ⟨b, o + (k + 1), none⟩ = some (.int .i64 (f.getD (k + 1) 0)) := fun h => by
          obtain ⟨b', o', e, h'⟩ := hA (k + 1) h
          cases e; exact h'
        have he := fEnd_eq n f k hk
        have hb1 := fEnd_bd n f ((k : Int) + 1)
        have hx := hc
        clear hc hA
        generalize f.getD k 0 = x at hx he
        generalize f.getD (k + 1) 0 = y at hc1 he
        have HE := Lib.hid he
        clear he
        by_cases hk1 : (k : Int) + 1 < f.length
        · have hy := hc1 (by omega)
          clear hc1
          go_enter Tryz.func145, Tryz.ntmps145
          go_wp2_with (first
            | ((with_reducible refine (l1In_any ..).mono ?_); rintro e w' ⟨rfl, rfl⟩)
            | ((with_reducible refine (H.out _ (by omega) (by omega) (by omega)).mono ?_); rintro e w' ⟨rfl, rfl⟩))
          all_goals (go_ret; refine ⟨congrArg (fun z => Ending.returned (.int .i64 z)) ?_, rfl⟩; rw [HE.out]; clear HE; simp only [*, Bool.false_eq_true, ↓reduceIte, decide_true, decide_false, Bool.true_and, Bool.false_and, ite_self])
        · clear hc1
          have hk2 : decide ((k : Int) + 1 < f.length) = false := by simp; omega
          have HK := Lib.hid hk2
          clear hk2
          go_enter Tryz.func145, Tryz.ntmps145
          go_wp2_with (first
            | ((with_reducible refine (l1In_any ..).mono ?_); rintro e w' ⟨rfl, rfl⟩)
            | ((with_reducible refine (H.out _ (by omega) (by omega) (by omega)).mono ?_); rintro e w' ⟨rfl, rfl⟩))
          all_goals (go_ret; refine ⟨congrArg (fun z => Ending.returned (.int .i64 z)) ?_, rfl⟩; rw [HE.out]; clear HE; simp only [HK.out, *, Bool.false_eq_true, ↓reduceIte, decide_true, decide_false, Bool.true_and, Bool.false_and, ite_self])

end Go.Proofs.YtdgnhfhaaghoaaaGreatDoor
