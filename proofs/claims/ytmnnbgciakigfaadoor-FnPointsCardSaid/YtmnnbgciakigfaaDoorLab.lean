/- Labelled systems in memory, as read: slices of slices of ints, slices of triples; the sizes that the law package reckons. -/
import Derived.Test.YtmnnbgciakigfaaDoorProg
import Derived.Test.YtmnnbgciakigfaaDoorIntS
set_option linter.unusedVariables false
namespace Go.Proofs.YtmnnbgciakigfaaDoor
open Go.RowKit

def RI (w : World) (v : Value) (xs : List Int) : Prop := ∃ A c, v = .slice A xs.length c ∧ xs.length ≤ maxLen ∧ Cells w A (ints xs)

def RSS (w : World) (v : Value) (xss : List (List Int)) : Prop :=
  ∃ A c vs, v = .slice A xss.length c ∧ xss.length ≤ maxLen ∧ vs.length = xss.length ∧ Cells w A vs ∧ ∀ (i : Nat) u xs, vs[i]? = some u → xss[i]? = some xs → RI w u xs

abbrev I3 := Int × Int × Int
def tri (t : I3) : List Value := [.int .i64 t.1, .int .i64 t.2.1, .int .i64 t.2.2]
def RA3 (w : World) (v : Value) (l : List I3) : Prop := ∃ A c, v = .slice A l.length c ∧ l.length ≤ maxLen ∧ Cells w A (l.flatMap tri)

structure Lab where
  shows : List (List Int)
  steps : List I3
def RLab (w : World) (v : Value) (l : Lab) : Prop := ∃ sv tv, v = .agg #[sv, tv] ∧ RSS w sv l.shows ∧ RA3 w tv l.steps

section
variable {w w' : World}
theorem RI.below {v : Value} {xs : List Int} (h : RI w v xs) (hb : Below w.heap.size w w') : RI w' v xs := by
  obtain ⟨A, c, e, hm, hc⟩ := h
  exact ⟨A, c, e, hm, hc.below hb⟩
theorem RSS.below {v : Value} {xss : List (List Int)} (h : RSS w v xss) (hb : Below w.heap.size w w') : RSS w' v xss := by
  obtain ⟨A, c, vs, e, hm, hl, hc, hi⟩ := h
  exact ⟨A, c, vs, e, hm, hl, hc.below hb, fun i u xs h1 h2 => (hi i u xs h1 h2).below hb⟩
theorem RA3.below {v : Value} {l : List I3} (h : RA3 w v l) (hb : Below w.heap.size w w') : RA3 w' v l := by
  obtain ⟨A, c, e, hm, hc⟩ := h
  exact ⟨A, c, e, hm, hc.below hb⟩
theorem RLab.below {v : Value} {l : Lab} (h : RLab w v l) (hb : Below w.heap.size w w') : RLab w' v l := by
  obtain ⟨sv, tv, e, hs, ht⟩ := h
  exact ⟨sv, tv, e, hs.below hb, ht.below hb⟩
end

/-- What is left after a row of n. -/
def szRow (n : Nat) (left : Int) : Int := if left - n < 0 then -1 else left - n
def szRows : List Nat → Int → Int
  | [], left => left
  | n :: r, left => if left - n < 0 then -1 else szRows r (left - n)
def szSS (xss : List (List Int)) (left : Int) : Int := if left - xss.length < 0 then -1 else szRows (xss.map List.length) (left - xss.length)

theorem szRows_neg (ns : List Nat) : ∀ l : Int, 0 ≤ l → szRows ns l = -1 ∨ 0 ≤ szRows ns l := by
  induction ns with
  | nil => intro l h; exact .inr h
  | cons n r ih =>
    intro l h
    unfold szRows
    split
    · exact .inl rfl
    · exact ih _ (by omega)

theorem szRows_sum (ns : List Nat) : ∀ l : Int, 0 ≤ l → 0 ≤ szRows ns l → (ns.sum : Int) + szRows ns l = l := by
  induction ns with
  | nil => intro l h _; simp [szRows]
  | cons n r ih =>
    intro l h
    unfold szRows
    split
    · intro h2; omega
    · intro h2
      have := ih _ (by omega) h2
      simp only [List.sum_cons]
      omega

theorem szRows_le (ns : List Nat) : ∀ l : Int, 0 ≤ l → szRows ns l ≤ l := by
  intro l h
  rcases szRows_neg ns l h with e | e
  · omega
  · have := szRows_sum ns l h e; omega

def szLab (l : Lab) (left : Int) : Int := if szSS l.shows left < 0 then -1 else szRow l.steps.length (szSS l.shows left)

end Go.Proofs.YtmnnbgciakigfaaDoor
