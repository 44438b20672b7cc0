/- A labelled system of a call's own: a table and a row of triples. -/
import Derived.Test.YtojdobpmknadhaaTab
import Derived.Test.YtojdobpmknadhaaLabOwn
set_option linter.unusedVariables false
namespace Go.Proofs.Ytojdobpmknadhaa
open Go.RowKit

theorem TRows.lab {w : World} {B : Nat} {u t : Value} {l : List (List Int)} {ss : List I3} (h : TRows w B u l) (k : w.ownsRow B 51 3 t ss.length (ss.flatMap tri)) :
    OwnLab w (fun b => B ≤ b ∧ b < w.heap.size) (.agg #[u, t]) ⟨l, ss⟩ := by
  obtain ⟨vs, h1, h2, h3⟩ := h
  have hvl : vs.length = l.length := by have := h1.1; omega
  have hrow : ∀ (i : Nat) v, vs[i]? = some v → ∃ xs, l[i]? = some xs ∧ w.ownsRow B 3 1 v xs.length (ints xs) := fun i v a => by
    have hil := (List.getElem?_eq_some_iff.1 a).1
    exact ⟨_, List.getElem?_eq_getElem (by omega), h2 i v _ a (List.getElem?_eq_getElem (by omega))⟩
  refine ⟨u, t, fun b => u.ownBlock = some b ∨ ∃ (i : Nat) (v : Value), vs[i]? = some v ∧ v.ownBlock = some b, fun b => t.ownBlock = some b, rfl, ?_, Own.of_owns k, ?_, fun b hb => k.lt b hb, ?_⟩
  · refine ⟨vs, fun b => u.ownBlock = some b, fun i b => ∃ v : Value, vs[i]? = some v ∧ v.ownBlock = some b, Own.of_owns h1, hvl, fun i v xs a b => (Own.of_owns (h2 i v xs a b)).mono (fun g hg => ⟨v, a, hg⟩), fun b hb => .inl hb, fun i b ⟨v, a, hb⟩ => ?_, fun i j b ⟨v, a, hb⟩ ⟨v', a', hb'⟩ => ?_⟩
    · obtain ⟨xs, _, ho⟩ := hrow i v a
      exact ⟨.inr ⟨i, v, a, hb⟩, owns_apart' ho h1 (by decide) b hb⟩
    · rcases Nat.lt_trichotomy i j with hh | hh | hh
      · exact absurd hb' (h3 i j v v' b hh a a' hb)
      · exact hh
      · exact absurd hb (h3 j i v' v b hh a' a hb')
  · rintro b (hb | ⟨i, v, a, hb⟩)
    · exact h1.lt b hb
    · obtain ⟨xs, _, ho⟩ := hrow i v a
      exact ho.lt b hb
  · rintro b (hb | ⟨i, v, a, hb⟩) hb2
    · exact owns_apart' h1 k (by decide) b hb hb2
    · obtain ⟨xs, _, ho⟩ := hrow i v a
      exact owns_apart' ho k (by decide) b hb hb2

theorem ownLab_nil (w : World) (S : Nat → Prop) : OwnLab w S (.agg #[.slice none 0 0, .slice none 0 0]) ⟨[], []⟩ := by
  refine ⟨_, _, fun _ => False, fun _ => False, rfl, ⟨[], fun _ => False, fun _ _ => False, ⟨none, 0, rfl, .inl rfl⟩, rfl, fun i u xs h => by simp at h, fun _ h => h.elim, fun _ _ h => h.elim, fun _ _ _ h => h.elim⟩, ⟨none, 0, rfl, .inl rfl⟩, fun _ h => h.elim, fun _ h => h.elim, fun _ h => h.elim⟩

end Go.Proofs.Ytojdobpmknadhaa
