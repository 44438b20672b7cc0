/- Tables of truth values: read, written; l11Table walked. Labelled systems: whether each step of a state is answered by another one: the reference walked. slices.Min, slices.IndexFunc and slices.ContainsFunc over ints: library walked, for a closure that is known by its contract. Whether all elements of a list are in another one: program and reference walked. Labelled systems: which states are simulated by which: the reference walked. Labelled systems: whether a number is a state, and IsSimulated of the reference: walked. The program's TellApart, walked. The reference's formula for two states: walked. The reference's TellApart, walked. Formulas: each list that is one has its tree; what is told of it by lists and what by trees. Plain law. Rows of bools that are set place by place, as the steps of a labelled system tell. No program is in sight. Which states satisfy a formula: the conjunction and the step, program walked. -/
import Derived.Test.YtdgnhfhaaghoaaaGreatDoorProg
import Derived.Test.YtdgnhfhaaghoaaaGreatDoorJ3
import Derived.Test.YtdgnhfhaaghoaaaGreatDoorJ17
import Derived.Test.YtdgnhfhaaghoaaaGreatDoorJ28
import Derived.Lib.QuietBelow
import Derived.Deep.QuietTactic
import Derived.BigQuiet
import Derived.Deep.RegionHeld3
import Derived.Test.YtdgnhfhaaghoaaaGreatDoorJ2
import Derived.Test.YtdgnhfhaaghoaaaGreatDoorJ11
import Derived.Test.YtdgnhfhaaghoaaaGreatDoorJ30
import Derived.Test.YtdgnhfhaaghoaaaGreatDoorJ13
import Derived.Test.YtdgnhfhaaghoaaaGreatDoorJ34
import Derived.Test.YtdgnhfhaaghoaaaGreatDoorJ33
set_option linter.unusedSimpArgs false
set_option linter.unusedVariables false
namespace Go.Proofs.YtdgnhfhaaghoaaaGreatDoor
open Go.RowKit

def offs (n : Nat) : List Value := List.replicate n (.bool false)
/-- A table that is being laid: k rows of n times no. -/
def TB0 (w : World) (B : Nat) (u : Value) (k n : Nat) : Prop :=
  ∃ vs : List Value, w.ownsRow B 79 1 u k vs ∧ (∀ (i : Nat) v, vs[i]? = some v → w.ownsRow B 4 1 v n (offs n)) ∧
    (∀ (i j : Nat) v v' b, i < j → vs[i]? = some v → vs[j]? = some v' → v.ownBlock = some b → v'.ownBlock ≠ some b)

theorem TB0.push {w w1 w2 : World} {B k n : Nat} {u u2 r : Value} {vs : List Value} {o : Obj}
    (h1 : w.ownsRow B 79 1 u k vs) (h2 : ∀ (i : Nat) v, vs[i]? = some v → w.ownsRow B 4 1 v n (offs n))
    (h3 : ∀ (i j : Nat) v v' b, i < j → vs[i]? = some v → vs[j]? = some v' → v.ownBlock = some b → v'.ownBlock ≠ some b)
    (hB : B ≤ w.heap.size) (hr : w1.ownsRow w.heap.size 4 1 r n (offs n)) (hb : Below w.heap.size w w1)
    (ho : w2.ownsRow B 79 1 u2 (k + 1) (vs ++ [r])) (hg : (w1.alloc o).grownBy w2 u.ownBlock) : TB0 w2 B u2 (k + 1) n := by
  have hu1 : (w1.alloc o).ownsRow B 79 1 u k vs := (owns_below h1 hb (Nat.le_refl _)).alloc _
  refine ⟨vs ++ [r], ho, fun i v hv => ?_, fun i j v v' b hij hv hv' hvb => ?_⟩
  · rcases Nat.lt_trichotomy i vs.length with hi | hi | hi
    · rw [List.getElem?_append_left hi] at hv
      have ha : (w1.alloc o).ownsRow B 4 1 v n (offs n) := (owns_below (h2 i v hv) hb (Nat.le_refl _)).alloc _
      exact owns_grown' ha hg (fun g hgv => owns_apart' ha hu1 (by decide) g hgv)
    · subst hi
      rw [List.getElem?_append_right (Nat.le_refl _), Nat.sub_self] at hv
      simp at hv
      subst hv
      have ha : (w1.alloc o).ownsRow B 4 1 r n (offs n) := (owns_mono hr hB).alloc _
      exact owns_grown' ha hg (fun g hgv => owns_apart' ha hu1 (by decide) g hgv)
    · rw [List.getElem?_eq_none (by simp; omega)] at hv
      cases hv
  · have hj : j ≤ vs.length := by
      have := (List.getElem?_eq_some_iff.1 hv').1
      simp at this
      omega
    rw [List.getElem?_append_left (by omega)] at hv
    rcases Nat.lt_or_eq_of_le hj with hj | hj
    · rw [List.getElem?_append_left hj] at hv'
      exact h3 i j v v' b hij hv hv' hvb
    · subst hj
      rw [List.getElem?_append_right (Nat.le_refl _), Nat.sub_self] at hv'
      simp at hv'
      subst hv'
      have a1 := ((h2 i v hv).lt b hvb).2
      intro e
      have a2 := (hr.lt b e).1
      omega

/-- A table of n times n truth values: the rows' blocks are R, their capacities C. -/
structure TabB (w : World) (B g : Nat) (R C : Nat → Nat) (n : Nat) (f : Nat → Nat → Bool) : Prop where
  outer : ∀ i, i < n → w.cell? ⟨g, i, none⟩ = some (.slice (some ⟨R i, 0, none⟩) n (C i))
  inner : ∀ i j, i < n → j < n → w.cell? ⟨R i, j, none⟩ = some (.bool (f i j)) ∧ w.frozen? ⟨R i, j, none⟩ = false
  lowg : B ≤ g
  low : ∀ i, i < n → B ≤ R i ∧ R i ≠ g
  inj : ∀ i j, i < n → j < n → R i = R j → i = j

def setN (f : Nat → Nat → Bool) (i j : Nat) (b : Bool) : Nat → Nat → Bool := fun x y => if x = i ∧ y = j then b else f x y

section
variable {w w' : World} {B g n : Nat} {R C : Nat → Nat} {f : Nat → Nat → Bool}
theorem TabB.below {B2 : Nat} (h : TabB w B g R C n f) (hb : Below B2 w w') (hB : w.heap.size ≤ B2) : TabB w' B g R C n f := by
  refine ⟨fun i hi => ?_, fun i j hi hj => ?_, h.lowg, h.low, h.inj⟩
  · have := h.outer i hi
    exact cell_below hb this (by have := lt_of_cell this; omega)
  · obtain ⟨h1, h2⟩ := h.inner i j hi hj
    have hl := lt_of_cell h1
    exact ⟨cell_below hb h1 (by omega), (World.frozen?_of_block (a := ⟨R i, j, none⟩) (hb.block _ (by dsimp only at hl ⊢; omega))).trans h2⟩
theorem TabB.set (h : TabB w B g R C n f) {i j : Nat} (hi : i < n) (hj : j < n) (b : Bool) : TabB (w.setCell ⟨R i, j, none⟩ (.bool b)) B g R C n (setN f i j b) := by
  refine ⟨fun x hx => ?_, fun x y hx hy => ?_, h.lowg, h.low, h.inj⟩
  · rw [World.cell?_setCell_other _ _ _ _ (by intro e; simp only [Addr.mk.injEq, and_true] at e; exact (h.low i hi).2 e.1)]
    exact h.outer x hx
  · obtain ⟨h1, h2⟩ := h.inner x y hx hy
    rw [World.frozen?_setCell]
    refine ⟨?_, h2⟩
    unfold setN
    by_cases e : x = i ∧ y = j
    · rw [if_pos e]
      obtain ⟨rfl, rfl⟩ := e
      exact World.cell?_setCell_same w _ _ h1
    · rw [if_neg e, World.cell?_setCell_other _ _ _ _ (by intro e2; simp only [Addr.mk.injEq, and_true] at e2; exact e ⟨(h.inj i x hi hx e2.1).symm, e2.2.symm⟩)]
      exact h1
theorem TabB.mono {B' : Nat} (h : TabB w B g R C n f) (hB : B' ≤ B) : TabB w B' g R C n f :=
  ⟨h.outer, h.inner, Nat.le_trans hB h.lowg, fun i hi => ⟨Nat.le_trans hB (h.low i hi).1, (h.low i hi).2⟩, h.inj⟩
theorem TabB.congr {f' : Nat → Nat → Bool} (h : TabB w B g R C n f) (hf : ∀ i j, i < n → j < n → f i j = f' i j) : TabB w B g R C n f' :=
  ⟨h.outer, fun i j hi hj => by rw [← hf i j hi hj]; exact h.inner i j hi hj, h.lowg, h.low, h.inj⟩
end

end Go.Proofs.YtdgnhfhaaghoaaaGreatDoor

set_option linter.unusedVariables false
namespace Go.Proofs.YtdgnhfhaaghoaaaGreatDoor
open Go.RowKit

end Go.Proofs.YtdgnhfhaaghoaaaGreatDoor

set_option linter.unusedVariables false
namespace Go.Proofs.YtdgnhfhaaghoaaaGreatDoor
open Go.RowKit

end Go.Proofs.YtdgnhfhaaghoaaaGreatDoor

set_option linter.unusedVariables false
namespace Go.Proofs.YtdgnhfhaaghoaaaGreatDoor
open Go.RowKit

end Go.Proofs.YtdgnhfhaaghoaaaGreatDoor

set_option linter.unusedVariables false
namespace Go.Proofs.YtdgnhfhaaghoaaaGreatDoor
open Go.RowKit

end Go.Proofs.YtdgnhfhaaghoaaaGreatDoor

set_option linter.unusedVariables false
namespace Go.Proofs.YtdgnhfhaaghoaaaGreatDoor
open Go.RowKit

end Go.Proofs.YtdgnhfhaaghoaaaGreatDoor

set_option linter.unusedVariables false
namespace Go.Proofs.YtdgnhfhaaghoaaaGreatDoor
open Go.RowKit

/-- The facts of the region that makes a teller: the rounds (b2), the teller (b4). -/
structure PF (l : Lab) (w1 : World) (sv tv : Value) (b2 b4 : Bool) (r : Value) (p : Nat) (W : World) : Prop where
  o1 : b4 = true → b2 = true
  z : Below w1.heap.size w1 W
  h2 : b2 = true → ∃ m, IsRounds l m ∧ TRN W w1.heap.size r (rowsTo (partsL l) (m + 1))
  h4 : b4 = true → W.heap[p]? = some (.cells #[sv, tv, r, .bool false] 72) ∧ ∃ V m, IsRounds l m ∧ TRN V w1.heap.size r (rowsTo (partsL l) (m + 1)) ∧ Below w1.heap.size w1 V ∧ V.heap.size ≤ p ∧ Below V.heap.size V W
section
variable {l : Lab} {w1 W W' : World} {sv tv : Value} {b2 b4 : Bool} {r : Value} {p : Nat}
theorem PF.start (r : Value) (p : Nat) : PF l w1 sv tv false false r p w1.drew := { o1 := fun h => (nomatch h), z := (Below.refl _ _).drew, h2 := fun h => (nomatch h), h4 := fun h => (nomatch h) }
theorem PF.called {r' : Value} {m : Nat} (h : PF l w1 sv tv false b4 r p W) (hM : IsRounds l m) (hT : TRN W' W.heap.size r' (rowsTo (partsL l) (m + 1))) (hb : Below W.heap.size W W') : PF l w1 sv tv true b4 r' p W' := by
  have e4 : b4 = false := by cases b4; rfl; exact absurd (h.o1 rfl) (by simp)
  subst e4
  refine { o1 := fun h => (nomatch h), z := h.z.trans (hb.mono h.z.size), h2 := fun _ => ⟨m, hM, ?_⟩, h4 := fun h => (nomatch h) }
  obtain ⟨vs, a, b, c, d⟩ := hT
  exact ⟨vs, owns_mono a h.z.size, fun i v xs x y => owns_mono (b i v xs x y) h.z.size, c, d⟩
end

end Go.Proofs.YtdgnhfhaaghoaaaGreatDoor

set_option linter.unusedVariables false
namespace Go.Proofs.YtdgnhfhaaghoaaaGreatDoor
open Go.RowKit

end Go.Proofs.YtdgnhfhaaghoaaaGreatDoor

set_option linter.unusedVariables false
namespace Go.Proofs.YtdgnhfhaaghoaaaGreatDoor
open Go.RowKit

end Go.Proofs.YtdgnhfhaaghoaaaGreatDoor

set_option linter.unusedVariables false
namespace Go.Proofs.YtdgnhfhaaghoaaaGreatDoor

end Go.Proofs.YtdgnhfhaaghoaaaGreatDoor

set_option linter.unusedVariables false
namespace Go.Proofs.YtdgnhfhaaghoaaaGreatDoor
open Go.RowKit

end Go.Proofs.YtdgnhfhaaghoaaaGreatDoor

set_option linter.unusedVariables false
namespace Go.Proofs.YtdgnhfhaaghoaaaGreatDoor
open Go.RowKit

end Go.Proofs.YtdgnhfhaaghoaaaGreatDoor
