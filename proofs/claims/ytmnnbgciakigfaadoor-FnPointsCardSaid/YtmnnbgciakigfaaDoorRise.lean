/- The walks of the two functions that ask whether numbers are strictly ascending, and of slices.IndexFunc, slices.ContainsFunc at a quiet closure. -/
import Derived.Test.YtmnnbgciakigfaaDoorProg
import Derived.Test.YtmnnbgciakigfaaDoorOrd
import Derived.Test.YtmnnbgciakigfaaDoorFormA
set_option linter.unusedVariables false
namespace Go.Proofs.YtmnnbgciakigfaaDoor
open Go.RowKit

def allR (n : Nat) (p : Nat → Bool) : Bool := (List.range n).all p
theorem allR_true {n : Nat} {p : Nat → Bool} (h : ∀ j, j < n → p j = true) : allR n p = true := by
  unfold allR; rw [List.all_eq_true]; intro x hx; exact h x (List.mem_range.1 hx)
theorem allR_false {n k : Nat} {p : Nat → Bool} (hk : k < n) (h : p k = false) : allR n p = false := by
  unfold allR; rw [Bool.eq_false_iff]; intro hh; rw [List.all_eq_true] at hh; have := hh k (List.mem_range.2 hk); rw [h] at this; cases this
theorem all_next {p : Nat → Bool} {k : Nat} (h : ∀ j, j < k → p j = true) (hk : p k = true) : ∀ j, j < k + 1 → p j = true := by
  intro j hj
  rcases Nat.lt_succ_iff_lt_or_eq.1 hj with h' | h'
  · exact h j h'
  · rw [h']; exact hk

theorem l1In_q (n lo hi : Int) (w : World) :
    Calls Tryd.prog 46 #[.int .i64 n, .int .i64 lo, .int .i64 hi] w fun e w' => e = .returned (.bool (inB n lo hi)) ∧ w' = w :=
  (l1In_any n lo hi w).mono fun _ _ ⟨a, b⟩ => ⟨a, b.symm⟩
theorem within_q (n lo hi : Int) (w : World) :
    Calls Tryd.prog 36 #[.int .i64 n, .int .i64 lo, .int .i64 hi] w fun e w' => e = .returned (.bool (inB n lo hi)) ∧ w' = w :=
  (within_any n lo hi w).mono fun _ _ ⟨a, b⟩ => ⟨a, b.symm⟩

/-- The number at k is in the range, and greater than the one before. -/
def riseAt (lo hi : Int) (l : List Int) (k : Nat) : Bool := inB (l.getD k 0) lo hi && (k == 0 || decide (l.getD (k - 1) 0 < l.getD k 0))
def rising (lo hi : Int) (l : List Int) : Bool := allR l.length (riseAt lo hi l)

end Go.Proofs.YtmnnbgciakigfaaDoor
