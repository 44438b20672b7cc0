/- Words for memory: a slice that reads as a list of cells, and how readings and owned rows are kept. No program is in sight. -/
import Derived.WalkKit
import Derived.WalkSpells
import Derived.WalkLawsBesides
import Derived.Lib.Hide
import Derived.Below
set_option linter.unusedVariables false
namespace Go.Proofs.YtmnnbgciakigfaaDoor
open Go.RowKit

/-- The slice with address A reads as the cells xs. Nil and empty slices: xs = []. -/
def Cells (w : World) (A : Option Addr) (xs : List Value) : Prop :=
  ∀ j u, xs[j]? = some u → ∃ b o, A = some ⟨b, o, none⟩ ∧ w.cell? ⟨b, o + j, none⟩ = some u

abbrev ints (xs : List Int) : List Value := xs.map (Value.int .i64)

section
variable {w w' : World} {A : Option Addr} {xs : List Value} {base : Nat} {e : TypeId} {size : Nat} {v : Value} {n c : Nat}

theorem Cells.nil (w : World) (A : Option Addr) : Cells w A [] := fun j u h => by simp at h

theorem Cells.keep (h : Cells w A xs) (hk : ∀ p : Addr, ∀ u, w.cell? p = some u → w'.cell? p = some u) : Cells w' A xs := fun j u hj => by
  obtain ⟨b, o, e, hc⟩ := h j u hj
  exact ⟨b, o, e, hk _ _ hc⟩

theorem cell_below {B : Nat} (hb : Below B w w') {p : Addr} {u : Value} (h : w.cell? p = some u) (hp : p.block < B) : w'.cell? p = some u := (hb.cell hp).trans h

theorem Cells.below (h : Cells w A xs) (hb : Below w.heap.size w w') : Cells w' A xs :=
  h.keep fun p u hc => cell_below hb hc (World.block_lt_of_cell? w p hc)

theorem Cells.alloc (h : Cells w A xs) (o : Obj) : Cells (w.alloc o) A xs := h.below ((Below.refl _ _).alloc (Nat.le_refl _) o)
theorem Cells.drew (h : Cells w A xs) : Cells w.drew A xs := h

/-- Where the first cell is: one address for all of them. -/
theorem Cells.at_ (h : Cells w A xs) {k : Nat} (hk : k < xs.length) : ∃ b o, A = some ⟨b, o, none⟩ ∧ ∀ j u, xs[j]? = some u → w.cell? ⟨b, o + j, none⟩ = some u := by
  obtain ⟨b, o, rfl, _⟩ := h k _ (List.getElem?_eq_getElem hk)
  refine ⟨b, o, rfl, fun j u hj => ?_⟩
  obtain ⟨b', o', e, hc⟩ := h j u hj
  cases e
  exact hc

theorem Cells.of_owns (h : w.ownsRow base e size (.slice A n c) n xs) : Cells w A xs := fun j u hj => by
  obtain ⟨hl, h⟩ := h
  rcases h with ⟨e, hn⟩ | ⟨g, cap, cur, e, hb, hg, h1, h2, h3, h4⟩
  · subst hn
    simp at hl
    subst hl
    simp at hj
  · cases e
    refine ⟨g, 0, rfl, ?_⟩
    rw [Nat.zero_add, cell_of_row w g j cur _ _ hg]
    have := (List.getElem?_eq_some_iff.1 hj).1
    rw [← h4, List.getElem?_take, if_pos (by omega)] at hj
    simpa using hj

theorem owns_form (h : w.ownsRow base e size v n xs) : ∃ A c, v = .slice A n c ∧ w.ownsRow base e size (.slice A n c) n xs := by
  rcases h.2 with ⟨rfl, rfl⟩ | ⟨g, cap, cur, rfl, _⟩
  · exact ⟨none, 0, rfl, h⟩
  · exact ⟨_, _, rfl, h⟩

theorem owns_below {B : Nat} (h : w.ownsRow base e size v n xs) (hb : Below B w w') (hB : w.heap.size ≤ B) : w'.ownsRow base e size v n xs := by
  refine ⟨h.1, ?_⟩
  rcases h.2 with hn | ⟨g, cap, cur, rfl, hbg, hg, rest⟩
  · exact .inl hn
  · have := (Array.getElem?_eq_some_iff.1 hg).1
    exact .inr ⟨g, cap, cur, rfl, hbg, by rw [hb.block g (by omega)]; exact hg, rest⟩

theorem owns_mono {b' : Nat} (h : w.ownsRow base e size v n xs) (hb : b' ≤ base) : w.ownsRow b' e size v n xs := by
  refine ⟨h.1, ?_⟩
  rcases h.2 with hn | ⟨g, cap, cur, rfl, hbg, rest⟩
  · exact .inl hn
  · exact .inr ⟨g, cap, cur, rfl, by omega, rest⟩
end

/-- What a loop has copied into a row of zeros after k rounds. -/
def fillV {α : Type} (xs : List α) (z : α) (k : Nat) : List α := xs.take k ++ List.replicate (xs.length - k) z

theorem fillV_zero {α : Type} (xs : List α) (z : α) : fillV xs z 0 = List.replicate xs.length z := by simp [fillV]
theorem fillV_all {α : Type} (xs : List α) (z : α) : fillV xs z xs.length = xs := by simp [fillV]
theorem fillV_all' {α : Type} {xs : List α} {z : α} {k : Nat} (h : xs.length = k) : fillV xs z k = xs := by subst h; exact fillV_all xs z
theorem fillV_length {α : Type} (xs : List α) (z : α) (k : Nat) (h : k ≤ xs.length) : (fillV xs z k).length = xs.length := by simp [fillV]; omega
theorem fillV_set {α : Type} (xs : List α) (z x : α) (k : Nat) (h : k < xs.length) (hx : xs[k]? = some x) : (fillV xs z k).set k x = fillV xs z (k + 1) := by
  have e1 : xs.take (k + 1) = xs.take k ++ [x] := by
    rw [List.take_succ_eq_append_getElem h]
    rw [List.getElem?_eq_getElem h] at hx
    injection hx with hx
    rw [hx]
  have e2 : xs.length - k = (xs.length - (k + 1)) + 1 := by omega
  unfold fillV
  rw [e1, e2, List.replicate_succ, List.set_append_right _ _ (by rw [List.length_take]; omega)]
  have e3 : k - (xs.take k).length = 0 := by rw [List.length_take]; omega
  rw [e3]
  simp

theorem getElem?_ints (xs : List Int) (j : Nat) (h : j < xs.length) : (ints xs)[j]? = some (.int .i64 (xs.getD j 0)) := by
  simp [ints, h]

theorem Cells.int {w : World} {A : Option Addr} {xs : List Int} (h : Cells w A (ints xs)) {k : Nat} (hk : k < xs.length) :
    ∃ b o, A = some ⟨b, o, none⟩ ∧ ∀ j, j < xs.length → w.cell? ⟨b, o + j, none⟩ = some (.int .i64 (xs.getD j 0)) := by
  obtain ⟨b, o, e, hc⟩ := h.at_ (k := k) (by simpa [ints] using hk)
  exact ⟨b, o, e, fun j hj => hc j _ (getElem?_ints xs j hj)⟩

theorem str_ne {x y : ByteArray} (h : x ≠ y) : (x.toList == y.toList) = false := by
  rw [beq_eq_false_iff_ne]
  intro e
  rw [ByteArray.toList_eq, ByteArray.toList_eq] at e
  exact h (ByteArray.ext (Array.toList_inj.1 e))

theorem str_eq (x : ByteArray) : (x.toList == x.toList) = true := by rw [beq_self_eq_true]

end Go.Proofs.YtmnnbgciakigfaaDoor
