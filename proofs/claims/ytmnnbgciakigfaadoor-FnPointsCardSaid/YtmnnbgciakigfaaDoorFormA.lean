/- The walks of the two functions that find the end of a formula: program and reference. Conditions: the slice's cells are readable. -/
import Derived.Test.YtmnnbgciakigfaaDoorProg
import Derived.WalkKit
import Derived.WalkSpells
import Derived.WalkLawsBesides
import Derived.Lib.Hide
import Derived.BigQuiet
import Derived.Deep.QuietTactic
set_option linter.unusedVariables false
namespace Go.Proofs.YtmnnbgciakigfaaDoor
open Go.RowKit

def inB (n lo hi : Int) : Bool := decide (lo ≤ n) && decide (n ≤ hi)

theorem inB_true {n lo hi : Int} (h : inB n lo hi = true) : lo ≤ n ∧ n ≤ hi := by simpa [inB] using h
theorem inB_false {n lo hi : Int} (h : inB n lo hi = false) : ¬ (lo ≤ n ∧ n ≤ hi) := by
  intro k; simp [inB, k.1, k.2] at h

set_option maxHeartbeats 400000 in
theorem within_any (n lo hi : Int) (w : World) :
    Calls Tryd.prog 36 #[.int .i64 n, .int .i64 lo, .int .i64 hi] w fun e w' => e = .returned (.bool (inB n lo hi)) ∧ w = w' := by
  unfold inB
  go_enter Tryd.func36, Tryd.ntmps36
  go_wp2
  all_goals go_ret
  all_goals exact ⟨by simp [*]; try omega, rfl⟩

set_option maxHeartbeats 400000 in
theorem l1In_any (n lo hi : Int) (w : World) :
    Calls Tryd.prog 46 #[.int .i64 n, .int .i64 lo, .int .i64 hi] w fun e w' => e = .returned (.bool (inB n lo hi)) ∧ w = w' := by
  unfold inB
  go_enter Tryd.func46, Tryd.ntmps46
  go_wp2
  all_goals go_ret
  all_goals exact ⟨by simp [*]; try omega, rfl⟩

/-- A slice of ints that reads as a list: nil too. -/
def Ints (w : World) (A : Option Addr) (xs : List Int) : Prop :=
  ∀ j, j < xs.length → ∃ b o, A = some ⟨b, o, none⟩ ∧ w.cell? ⟨b, o + j, none⟩ = some (.int .i64 (xs.getD j 0))

/-- The place behind the formula at a place. -/
def fEnd : Nat → List Int → Int → Int
  | 0, _, _ => -1
  | n + 1, f, p =>
    if p < 0 ∨ (f.length : Int) ≤ p then -1
    else if f.getD p.toNat 0 == 0 then p + 1
    else if f.getD p.toNat 0 == 1 then (if decide (p + 1 < f.length) && inB (f.getD (p + 1).toNat 0) 0 7 then p + 2 else -1)
    else if f.getD p.toNat 0 == 2 then fEnd n f (p + 1)
    else if f.getD p.toNat 0 == 3 then fEnd n f (fEnd n f (p + 1))
    else if f.getD p.toNat 0 == 4 then (if decide (p + 1 < f.length) && inB (f.getD (p + 1).toNat 0) 0 7 then fEnd n f (p + 2) else -1)
    else -1

theorem fEnd_neg (n : Nat) (f : List Int) (p : Int) (h : p < 0) : fEnd n f p = -1 := by
  cases n with
  | zero => rfl
  | succ n => unfold fEnd; rw [if_pos (.inl h)]

theorem fEnd_bd (n : Nat) (f : List Int) : ∀ p, fEnd n f p = -1 ∨ (p < fEnd n f p ∧ fEnd n f p ≤ f.length) := by
  induction n with
  | zero => intro p; exact .inl rfl
  | succ n ih =>
    intro p
    unfold fEnd
    have h1 := ih (p + 1)
    have h2 := ih (fEnd n f (p + 1))
    have h3 := ih (p + 2)
    split
    · exact .inl rfl
    · split
      · right; omega
      · split
        · split
          · rename_i hh
            simp only [Bool.and_eq_true, decide_eq_true_eq] at hh
            right; omega
          · exact .inl rfl
        · split
          · omega
          · split
            · rcases h1 with h1 | h1
              · left; exact fEnd_neg n f _ (by omega)
              · omega
            · split
              · split
                · omega
                · exact .inl rfl
              · exact .inl rfl

theorem fEnd_eq (n : Nat) (f : List Int) (k : Nat) (hk : k < f.length) : fEnd (n + 1) f k =
    if f.getD k 0 == 0 then (k : Int) + 1
    else if f.getD k 0 == 1 then (if decide ((k : Int) + 1 < f.length) && inB (f.getD (k + 1) 0) 0 7 then (k : Int) + 2 else -1)
    else if f.getD k 0 == 2 then fEnd n f ((k : Int) + 1)
    else if f.getD k 0 == 3 then fEnd n f (fEnd n f ((k : Int) + 1))
    else if f.getD k 0 == 4 then (if decide ((k : Int) + 1 < f.length) && inB (f.getD (k + 1) 0) 0 7 then fEnd n f ((k : Int) + 2) else -1)
    else -1 := by
  rw [fEnd, if_neg (by omega)]
  rw [show ((k : Int) + 1).toNat = k + 1 by omega, Int.toNat_natCast]

end Go.Proofs.YtmnnbgciakigfaaDoor
