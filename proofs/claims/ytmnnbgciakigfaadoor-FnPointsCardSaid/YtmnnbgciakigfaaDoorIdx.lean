/- slices.IndexFunc and slices.ContainsFunc: what they answer, for a closure that is known by its contract. -/
import Derived.Test.YtmnnbgciakigfaaDoorProg
import Derived.Test.YtmnnbgciakigfaaDoorRise
set_option linter.unusedVariables false
namespace Go.Proofs.YtmnnbgciakigfaaDoor
open Go.RowKit

/-- The first number below n for which p holds, -1 if there is none. -/
def idxR (n : Nat) (p : Nat → Bool) : Int := match (List.range n).find? p with | some k => (k : Int) | none => -1

theorem idxR_none {n : Nat} {p : Nat → Bool} (h : ∀ j, j < n → p j = false) : idxR n p = -1 := by
  have : (List.range n).find? p = none := by rw [List.find?_eq_none]; intro x hx; simp [h x (List.mem_range.1 hx)]
  unfold idxR; rw [this]
theorem idxR_some {n k : Nat} {p : Nat → Bool} (hk : k < n) (h : ∀ j, j < k → p j = false) (hp : p k = true) : idxR n p = (k : Int) := by
  have : (List.range n).find? p = some k := by
    rw [List.find?_range_eq_some]
    exact ⟨hp, List.mem_range.2 hk, fun j hj => by simp [h j hj]⟩
  unfold idxR; rw [this]
def anyR (n : Nat) (p : Nat → Bool) : Bool := (List.range n).any p
theorem idxR_any (n : Nat) (p : Nat → Bool) : decide (0 ≤ idxR n p) = anyR n p := by
  cases h : (List.range n).find? p with
  | none =>
    have h1 : idxR n p = -1 := by unfold idxR; rw [h]
    have h2 : anyR n p = false := by
      unfold anyR
      rw [List.any_eq_false]
      intro x hx
      exact List.find?_eq_none.1 h x hx
    rw [h1, h2]; rfl
  | some k =>
    have h1 : idxR n p = (k : Int) := by unfold idxR; rw [h]
    have h2 : anyR n p = true := by
      unfold anyR
      rw [List.any_eq_true]
      exact ⟨k, List.mem_of_find?_eq_some h, List.find?_some h⟩
    rw [h1, h2]; simp
theorem none_next {p : Nat → Bool} {k : Nat} (h : ∀ j, j < k → p j = false) (hk : p k = false) : ∀ j, j < k + 1 → p j = false := by
  intro j hj
  rcases Nat.lt_succ_iff_lt_or_eq.1 hj with h' | h'
  · exact h j h'
  · rw [h']; exact hk

theorem enter_of {P : Program} {F : FuncId} {fn : Func} (hf : P.funcs[F]? = some fn) (hname : (fn.name == "runtime.NumGoroutine") = false) (hb : fn.body.isNone = false) (args : Array Value) (w : World) :
    (callFunc F args).run P w = .ok (.enter F args) w := by
  have h1 : ¬ fn.name = "runtime.NumGoroutine" := by simpa using hname
  have h2 : ¬ fn.body = none := by intro e; rw [e] at hb; cases hb
  simp [callFunc, hf, h1, h2]

end Go.Proofs.YtmnnbgciakigfaaDoor
