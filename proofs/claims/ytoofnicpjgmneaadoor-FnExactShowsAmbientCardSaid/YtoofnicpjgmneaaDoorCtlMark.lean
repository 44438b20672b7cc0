/- Controls marked and asked for the mark; the law of the ambients' signature. -/
import Derived.Test.YtoofnicpjgmneaaDoorProg
import Derived.Test.YtoofnicpjgmneaaDoorCtl
import Derived.Deep.RegionHeld3
set_option linter.unusedVariables false
namespace Go.Proofs.YtoofnicpjgmneaaDoor
open Go.RowKit

/-- The first j of the elements are marked: M i is the mark of element i. -/
def markTo {α : Type} (enc : α → List Value) (M : Nat → α) (l : List α) (j : Nat) : List Value := ((List.range j).map M).flatMap enc ++ (l.drop j).flatMap enc

theorem enc_len {α : Type} {enc : α → List Value} {sz : Nat} (h : ∀ x, (enc x).length = sz) (l : List α) : (l.flatMap enc).length = l.length * sz := by
  induction l with
  | nil => simp
  | cons a r ih => rw [List.flatMap_cons, List.length_append, ih, h, List.length_cons, Nat.succ_mul]; omega
theorem markTo_len {α : Type} {enc : α → List Value} {sz : Nat} (h : ∀ x, (enc x).length = sz) (M : Nat → α) (l : List α) (j : Nat) (hj : j ≤ l.length) : (markTo enc M l j).length = l.length * sz := by
  unfold markTo
  rw [List.length_append, enc_len h, enc_len h, List.length_map, List.length_range, List.length_drop, ← Nat.add_mul]
  congr 1
  omega
theorem markTo_zero {α : Type} (enc : α → List Value) (M : Nat → α) (l : List α) : markTo enc M l 0 = l.flatMap enc := by simp [markTo]
theorem markTo_all {α : Type} (enc : α → List Value) (M : Nat → α) (l : List α) : markTo enc M l l.length = ((List.range l.length).map M).flatMap enc := by simp [markTo]
theorem markTo_set {α : Type} {enc : α → List Value} {sz : Nat} (h : ∀ x, (enc x).length = sz) (M : Nat → α) (l : List α) (j : Nat) (hj : j < l.length) :
    setL (markTo enc M l j) (j * sz) (enc (M j)) = markTo enc M l (j + 1) := by
  have hP : (((List.range j).map M).flatMap enc).length = j * sz := by rw [enc_len h]; simp
  unfold markTo
  rw [List.drop_eq_getElem_cons hj, List.flatMap_cons, ← hP, setL_mid _ _ _ _ (by rw [h, h]), List.range_succ]
  simp

theorem Own.setL {w : World} {S : Nat → Prop} {n : Nat} {g o c : Nat} : ∀ (us : List Value) (w : World) (cs : List Value) (k : Nat), Own w S (.slice (some ⟨g, o, none⟩) n c) n cs → k + us.length ≤ cs.length →
    Own (w.setCells g (o + k) us) S (.slice (some ⟨g, o, none⟩) n c) n (setL cs k us)
  | [], w, cs, k, h, _ => h
  | u :: us, w, cs, k, h, hk => by
    have h1 := h.set k u rfl (by simp at hk; omega)
    have := Own.setL (w := w) us (w.setCell ⟨g, o + k, none⟩ u) (cs.set k u) (k + 1) h1 (by simp at hk ⊢; omega)
    exact this

def mC (k : Int) (i : Nat) : Ctl := (mText (k + 3 * (i : Int)), k + 3 * (i : Int) + 1, k + 3 * (i : Int) + 2)
theorem encC_len (c : Ctl) : (encC c).length = 3 := rfl

theorem mC_at (k : Int) (n i : Nat) (h : i < n) : ((List.range n).map (mC k))[i]? = some (mC k i) := by simp [h]

end Go.Proofs.YtoofnicpjgmneaaDoor
