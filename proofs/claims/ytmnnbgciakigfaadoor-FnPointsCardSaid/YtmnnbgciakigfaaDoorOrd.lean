/- The walks of the order on numbers, lists and triples: cmp.Compare, slices.Compare at []int, compareSteps, l10Before. -/
import Derived.Test.YtmnnbgciakigfaaDoorProg
import Derived.Test.YtmnnbgciakigfaaDoorLabTo
import Derived.Test.YtmnnbgciakigfaaDoorOwn
set_option linter.unusedVariables false
namespace Go.Proofs.YtmnnbgciakigfaaDoor
open Go.RowKit

def cmpI (x y : Int) : Int := if x < y then -1 else if y < x then 1 else 0
theorem cmpI_lt {x y : Int} (h : x < y) : cmpI x y = -1 := by simp [cmpI, h]
theorem cmpI_gt {x y : Int} (h : y < x) : cmpI x y = 1 := by unfold cmpI; rw [if_neg (by omega), if_pos h]
theorem cmpI_eq (x : Int) : cmpI x x = 0 := by simp [cmpI]

def cmpL : List Int → List Int → Int
  | [], [] => 0
  | [], _ :: _ => -1
  | _ :: _, [] => 1
  | x :: xs, y :: ys => if cmpI x y != 0 then cmpI x y else cmpL xs ys

def lt3 (t u : I3) : Bool := decide (cmpL [t.1, t.2.1, t.2.2] [u.1, u.2.1, u.2.2] < 0)
def cmp3 (t u : I3) : Int := cmpL [t.1, t.2.1, t.2.2] [u.1, u.2.1, u.2.2]

theorem cells_of_heap {w : World} {g : Nat} {cs : List Value} {t : TypeId} {fr : Nat × Nat} (h : w.heap[g]? = some (.cells cs.toArray t fr)) : Cells w (some ⟨g, 0, none⟩) cs := fun j u hj => by
  refine ⟨g, 0, rfl, ?_⟩
  rw [Nat.zero_add, cell_of_row _ _ _ _ _ _ h]
  simpa using hj

theorem cmpI_pos {x y : Int} : cmpI x y < 0 ↔ x < y := by
  unfold cmpI
  split
  · simp [*]
  · split <;> simp <;> omega

theorem lt3_ne1 {x y z x' y' z' : Int} (h : x ≠ x') : lt3 (x, y, z) (x', y', z') = decide (x < x') := by
  have : cmpI x x' ≠ 0 := by unfold cmpI; split <;> (try split) <;> (try simp) <;> omega
  unfold lt3
  simp only [cmpL, bne_iff_ne, ne_eq, this, not_false_eq_true, if_true, cmpI_pos]
theorem lt3_ne2 {x y z y' z' : Int} (h : y ≠ y') : lt3 (x, y, z) (x, y', z') = decide (y < y') := by
  have : cmpI y y' ≠ 0 := by unfold cmpI; split <;> (try split) <;> (try simp) <;> omega
  unfold lt3
  simp [cmpL, this, cmpI_pos, cmpI_eq]
theorem lt3_ne3 {x y z z' : Int} (h : z ≠ z') : lt3 (x, y, z) (x, y, z') = decide (z < z') := by
  have : cmpI z z' ≠ 0 := by unfold cmpI; split <;> (try split) <;> (try simp) <;> omega
  unfold lt3
  simp [cmpL, this, cmpI_pos, cmpI_eq]
theorem lt3_self {x y z : Int} : lt3 (x, y, z) (x, y, z) = false := by
  unfold lt3
  simp [cmpL, cmpI_eq]

end Go.Proofs.YtmnnbgciakigfaaDoor
