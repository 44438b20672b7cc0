/- A clone pushed behind a table that lies in a box: what holds behind the operations that have come up. -/
import Derived.Test.YtdgnhfhaaghoaaaGreatDoorProg
import Derived.Test.YtdgnhfhaaghoaaaGreatDoorJ4
set_option linter.unusedSimpArgs false
set_option linter.unusedVariables false
namespace Go.Proofs.YtdgnhfhaaghoaaaGreatDoor
open Go.RowKit

/-- A table whose rows' blocks lie below C. -/
def TB (w : World) (B C : Nat) (u : Value) (l : List (List Int)) : Prop :=
  ∃ vs : List Value, w.ownsRow B 30 1 u l.length vs ∧ (∀ (i : Nat) v xs, vs[i]? = some v → l[i]? = some xs → w.ownsRow B 3 1 v xs.length (ints xs)) ∧
    (∀ (i j : Nat) v v' b, i < j → vs[i]? = some v → vs[j]? = some v' → v.ownBlock = some b → v'.ownBlock ≠ some b) ∧ (∀ (i : Nat) v b, vs[i]? = some v → v.ownBlock = some b → b < C)
theorem TRows.tb {w : World} {B : Nat} {u : Value} {l : List (List Int)} (h : TRows w B u l) : TB w B w.heap.size u l := by
  obtain ⟨vs, a, b, c⟩ := h
  exact ⟨vs, a, b, c, fun i v q x y => by
    have hi : i < l.length := by have := a.1; have := (List.getElem?_eq_some_iff.1 x).1; omega
    exact ((b i v _ x (List.getElem?_eq_getElem hi)).lt q y).2⟩
theorem TB.below {w w' : World} {B C : Nat} {u : Value} {l : List (List Int)} (h : TB w B C u l) (hb : Below w.heap.size w w') : TB w' B C u l := by
  obtain ⟨vs, a, b, c, d⟩ := h
  exact ⟨vs, owns_below a hb (Nat.le_refl _), fun i v xs x y => owns_below (b i v xs x y) hb (Nat.le_refl _), c, d⟩

/-- While one row's clone is pushed. -/
structure UG (Wb W0 : World) (B p : Nat) (u tS x : Value) (l : List (List Int)) (xs : List Int) (L : Nat → Bool) (v47 v48 v49 v50 v51 v52 v53 : Value) (w : World) : Prop where
  z5 : ∀ q, q < B → q ≠ p → w.heap[q]? = W0.heap[q]?
  sz : W0.heap.size ≤ w.heap.size
  zz : Below Wb.heap.size Wb w
  tb : L 5 = false → TB w B W0.heap.size u l
  hp : L 7 = false → w.heap[p]? = some (.cells #[u, tS] 27)
  f0 : L 0 = true → v47 = .pointer (some ⟨p, 0, none⟩)
  f1 : L 1 = true → v48 = u
  f2 : L 2 = true → v49 = x
  f3 : L 3 = true → ∃ A c, v50 = .slice A xs.length c ∧ w.ownsRow W0.heap.size 3 1 v50 xs.length (ints xs)
  f4 : L 4 = true → ∃ g, v51 = .slice (some ⟨g, 0, none⟩) 1 1 ∧ (L 5 = false → w.heap[g]? = some (.cells #[v50] 30))
  f5 : L 5 = true → ∃ A c, v52 = .slice A (l.length + 1) c ∧ TRows w B v52 (l ++ [xs])
  f6 : L 6 = true → v53 = .pointer (some ⟨p, 0, none⟩)
  f7 : L 7 = true → w.heap[p]? = some (.cells #[v52, tS] 27)
  e4 : L 4 = true → L 3 = true
  e5 : L 5 = true → L 1 = true ∧ L 4 = true
  e7 : L 7 = true → L 5 = true

theorem UG.below {Wb W0 w w1 : World} {B p : Nat} {u tS x : Value} {l : List (List Int)} {xs : List Int} {L : Nat → Bool} {v47 v48 v49 v50 v51 v52 v53 : Value} (h : UG Wb W0 B p u tS x l xs L v47 v48 v49 v50 v51 v52 v53 w) (hb : Below w.heap.size w w1) (hB : B ≤ W0.heap.size) : UG Wb W0 B p u tS x l xs L v47 v48 v49 v50 v51 v52 v53 w1 := by
  have hs := h.sz
  refine { h with z5 := fun q a b => ?_, sz := Nat.le_trans h.sz hb.size, zz := h.zz.trans (hb.mono h.zz.size), tb := fun y => (h.tb y).below hb, hp := fun y => ?_, f3 := fun y => ?_, f4 := fun y => ?_, f5 := fun y => ?_, f7 := fun y => ?_ }
  · rw [hb.block q (by omega)]
    exact h.z5 q a b
  · exact (hb.block p (Array.getElem?_eq_some_iff.1 (h.hp y)).1).trans (h.hp y)
  · obtain ⟨A, c, e, y⟩ := h.f3 y
    exact ⟨A, c, e, owns_below y hb (Nat.le_refl _)⟩
  · obtain ⟨g, e, y⟩ := h.f4 y
    exact ⟨g, e, fun z => (hb.block g (Array.getElem?_eq_some_iff.1 (y z)).1).trans (y z)⟩
  · obtain ⟨A, c, e, y⟩ := h.f5 y
    exact ⟨A, c, e, y.below hb (Nat.le_refl _)⟩
  · exact (hb.block p (Array.getElem?_eq_some_iff.1 (h.f7 y)).1).trans (h.f7 y)

theorem UG.s0 {Wb W0 w : World} {B p : Nat} {u tS x r : Value} {l : List (List Int)} {xs : List Int} {L : Nat → Bool} {v47 v48 v49 v50 v51 v52 v53 : Value} (h : UG Wb W0 B p u tS x l xs L v47 v48 v49 v50 v51 v52 v53 w) (hl : L 0 = false) (hn : r = .pointer (some ⟨p, 0, none⟩)) : UG Wb W0 B p u tS x l xs (upd L 0) r v48 v49 v50 v51 v52 v53 w := by
  exact { z5 := h.z5, sz := h.sz, zz := h.zz, tb := by simpa [upd] using h.tb, hp := by simpa [upd] using h.hp, f0 := fun _ => hn, f1 := by simpa [upd] using h.f1, f2 := by simpa [upd] using h.f2, f3 := by simpa [upd] using h.f3, f4 := by simpa [upd] using h.f4, f5 := by simpa [upd] using h.f5, f6 := by simpa [upd] using h.f6, f7 := by simpa [upd] using h.f7, e4 := by simpa [upd] using h.e4, e5 := by simpa [upd] using h.e5, e7 := by simpa [upd] using h.e7 }
theorem UG.s1 {Wb W0 w : World} {B p : Nat} {u tS x r : Value} {l : List (List Int)} {xs : List Int} {L : Nat → Bool} {v47 v48 v49 v50 v51 v52 v53 : Value} (h : UG Wb W0 B p u tS x l xs L v47 v48 v49 v50 v51 v52 v53 w) (hl : L 1 = false) (hn : r = u) : UG Wb W0 B p u tS x l xs (upd L 1) v47 r v49 v50 v51 v52 v53 w := by
  have n5 : L 5 = false := by
    cases e : L 5
    · rfl
    · exact absurd (h.e5 e).1 (by simp [hl])
  have n7 : L 7 = false := by
    cases e : L 7
    · rfl
    · exact absurd (h.e7 e) (by simp [n5])
  exact { z5 := h.z5, sz := h.sz, zz := h.zz, tb := by simpa [upd] using h.tb, hp := by simpa [upd] using h.hp, f0 := by simpa [upd] using h.f0, f1 := fun _ => hn, f2 := by simpa [upd] using h.f2, f3 := by simpa [upd] using h.f3, f4 := by simpa [upd] using h.f4, f5 := fun y => by simp [upd, n5] at y, f6 := by simpa [upd] using h.f6, f7 := by simpa [upd] using h.f7, e4 := by simpa [upd] using h.e4, e5 := fun y => by simp [upd, n5] at y, e7 := by simpa [upd] using h.e7 }
theorem UG.s2 {Wb W0 w : World} {B p : Nat} {u tS x r : Value} {l : List (List Int)} {xs : List Int} {L : Nat → Bool} {v47 v48 v49 v50 v51 v52 v53 : Value} (h : UG Wb W0 B p u tS x l xs L v47 v48 v49 v50 v51 v52 v53 w) (hl : L 2 = false) (hn : r = x) : UG Wb W0 B p u tS x l xs (upd L 2) v47 v48 r v50 v51 v52 v53 w := by
  exact { z5 := h.z5, sz := h.sz, zz := h.zz, tb := by simpa [upd] using h.tb, hp := by simpa [upd] using h.hp, f0 := by simpa [upd] using h.f0, f1 := by simpa [upd] using h.f1, f2 := fun _ => hn, f3 := by simpa [upd] using h.f3, f4 := by simpa [upd] using h.f4, f5 := by simpa [upd] using h.f5, f6 := by simpa [upd] using h.f6, f7 := by simpa [upd] using h.f7, e4 := by simpa [upd] using h.e4, e5 := by simpa [upd] using h.e5, e7 := by simpa [upd] using h.e7 }
theorem UG.s3 {Wb W0 w : World} {B p : Nat} {u tS x r : Value} {l : List (List Int)} {xs : List Int} {L : Nat → Bool} {v47 v48 v49 v50 v51 v52 v53 : Value} (h : UG Wb W0 B p u tS x l xs L v47 v48 v49 v50 v51 v52 v53 w) (hl : L 3 = false) (hn : ∃ A c, r = .slice A xs.length c ∧ w.ownsRow W0.heap.size 3 1 r xs.length (ints xs)) : UG Wb W0 B p u tS x l xs (upd L 3) v47 v48 v49 r v51 v52 v53 w := by
  have n4 : L 4 = false := by
    cases e : L 4
    · rfl
    · exact absurd (h.e4 e) (by simp [hl])
  exact { z5 := h.z5, sz := h.sz, zz := h.zz, tb := by simpa [upd] using h.tb, hp := by simpa [upd] using h.hp, f0 := by simpa [upd] using h.f0, f1 := by simpa [upd] using h.f1, f2 := by simpa [upd] using h.f2, f3 := fun _ => hn, f4 := fun y => by simp [upd, n4] at y, f5 := by simpa [upd] using h.f5, f6 := by simpa [upd] using h.f6, f7 := by simpa [upd] using h.f7, e4 := fun y => by simp [upd, n4] at y, e5 := by simpa [upd] using h.e5, e7 := by simpa [upd] using h.e7 }
theorem UG.s4 {Wb W0 w : World} {B p : Nat} {u tS x r : Value} {l : List (List Int)} {xs : List Int} {L : Nat → Bool} {v47 v48 v49 v50 v51 v52 v53 : Value} (h : UG Wb W0 B p u tS x l xs L v47 v48 v49 v50 v51 v52 v53 w) (hl : L 4 = false) (hn : (∃ g, r = .slice (some ⟨g, 0, none⟩) 1 1 ∧ w.heap[g]? = some (.cells #[v50] 30)) ∧ L 3 = true) : UG Wb W0 B p u tS x l xs (upd L 4) v47 v48 v49 v50 r v52 v53 w := by
  have n5 : L 5 = false := by
    cases e : L 5
    · rfl
    · exact absurd (h.e5 e).2 (by simp [hl])
  have n7 : L 7 = false := by
    cases e : L 7
    · rfl
    · exact absurd (h.e7 e) (by simp [n5])
  exact { z5 := h.z5, sz := h.sz, zz := h.zz, tb := by simpa [upd] using h.tb, hp := by simpa [upd] using h.hp, f0 := by simpa [upd] using h.f0, f1 := by simpa [upd] using h.f1, f2 := by simpa [upd] using h.f2, f3 := by simpa [upd] using h.f3, f4 := fun _ => by obtain ⟨⟨g, e, y⟩, _⟩ := hn; exact ⟨g, e, fun _ => y⟩, f5 := fun y => by simp [upd, n5] at y, f6 := by simpa [upd] using h.f6, f7 := by simpa [upd] using h.f7, e4 := fun _ => by simpa [upd] using hn.2, e5 := fun y => by simp [upd, n5] at y, e7 := by simpa [upd] using h.e7 }
theorem UG.s6 {Wb W0 w : World} {B p : Nat} {u tS x r : Value} {l : List (List Int)} {xs : List Int} {L : Nat → Bool} {v47 v48 v49 v50 v51 v52 v53 : Value} (h : UG Wb W0 B p u tS x l xs L v47 v48 v49 v50 v51 v52 v53 w) (hl : L 6 = false) (hn : r = .pointer (some ⟨p, 0, none⟩)) : UG Wb W0 B p u tS x l xs (upd L 6) v47 v48 v49 v50 v51 v52 r w := by
  exact { z5 := h.z5, sz := h.sz, zz := h.zz, tb := by simpa [upd] using h.tb, hp := by simpa [upd] using h.hp, f0 := by simpa [upd] using h.f0, f1 := by simpa [upd] using h.f1, f2 := by simpa [upd] using h.f2, f3 := by simpa [upd] using h.f3, f4 := by simpa [upd] using h.f4, f5 := by simpa [upd] using h.f5, f6 := fun _ => hn, f7 := by simpa [upd] using h.f7, e4 := by simpa [upd] using h.e4, e5 := by simpa [upd] using h.e5, e7 := by simpa [upd] using h.e7 }
theorem UG.s5 {Wb W0 w w1 : World} {B p : Nat} {u tS x r : Value} {l : List (List Int)} {xs : List Int} {L : Nat → Bool} {v47 v48 v49 v50 v51 v52 v53 : Value} (h : UG Wb W0 B p u tS x l xs L v47 v48 v49 v50 v51 v52 v53 w) (hl : L 5 = false) (hz5 : ∀ q, q < B → q ≠ p → w1.heap[q]? = W0.heap[q]?) (hsz : W0.heap.size ≤ w1.heap.size) (hz : Below Wb.heap.size Wb w1) (hnp : w1.heap[p]? = some (.cells #[u, tS] 27)) (hk3 : ∀ v, w.ownsRow W0.heap.size 3 1 v xs.length (ints xs) → w1.ownsRow W0.heap.size 3 1 v xs.length (ints xs)) (he : L 1 = true ∧ L 4 = true) (hn : ∃ A c, r = .slice A (l.length + 1) c ∧ TRows w1 B r (l ++ [xs])) : UG Wb W0 B p u tS x l xs (upd L 5) v47 v48 v49 v50 v51 r v53 w1 := by
  have n7 : L 7 = false := by
    cases e : L 7
    · rfl
    · exact absurd (h.e7 e) (by simp [hl])
  exact { z5 := hz5, sz := hsz, zz := hz, tb := fun y => by simp [upd] at y, hp := fun y => hnp, f0 := by simpa [upd] using h.f0, f1 := by simpa [upd] using h.f1, f2 := by simpa [upd] using h.f2, f3 := fun y => by obtain ⟨A, c, e, y⟩ := h.f3 (by simpa [upd] using y); exact ⟨A, c, e, hk3 _ y⟩, f4 := fun y => by obtain ⟨g, e, y⟩ := h.f4 (by simpa [upd] using y); exact ⟨g, e, fun z => by simp [upd] at z⟩, f5 := fun _ => hn, f6 := by simpa [upd] using h.f6, f7 := fun y => by simp [upd, n7] at y, e4 := by simpa [upd] using h.e4, e5 := fun _ => by simpa [upd] using he, e7 := fun y => by simp [upd, n7] at y }
theorem UG.s7 {Wb W0 w : World} {B p : Nat} {u tS x : Value} {l : List (List Int)} {xs : List Int} {L : Nat → Bool} {v47 v48 v49 v50 v51 v52 v53 : Value} (h : UG Wb W0 B p u tS x l xs L v47 v48 v49 v50 v51 v52 v53 w) (hl : L 7 = false) (h5 : L 5 = true) (hp : Wb.heap.size ≤ p) : UG Wb W0 B p u tS x l xs (upd L 7) v47 v48 v49 v50 v51 v52 v53 (w.setCell ⟨p, 0, none⟩ v52) := by
  have hq := h.hp hl
  have hk : ∀ q, q < w.heap.size → q ≠ p → (w.setCell ⟨p, 0, none⟩ v52).heap[q]? = w.heap[q]? := fun q _ h2 => heap_setCell_other _ _ _ _ h2
  have h7 := heap_setCell_same w p 0 _ _ v52 hq
  exact { z5 := fun q a b => (heap_setCell_other _ _ _ _ b).trans (h.z5 q a b), sz := by rw [World.size_setCell]; exact h.sz, zz := h.zz.setCell hp _, tb := fun y => by simp [upd, h5] at y, hp := fun y => by simp [upd] at y, f0 := by simpa [upd] using h.f0, f1 := by simpa [upd] using h.f1, f2 := by simpa [upd] using h.f2, f3 := fun y => by obtain ⟨A, c, e, y⟩ := h.f3 (by simpa [upd] using y); exact ⟨A, c, e, owns_but y hk hq (by decide)⟩, f4 := fun y => by obtain ⟨g, e, y⟩ := h.f4 (by simpa [upd] using y); exact ⟨g, e, fun z => by simp [upd, h5] at z⟩, f5 := fun y => by obtain ⟨A, c, e, y⟩ := h.f5 (by simpa [upd] using y); exact ⟨A, c, e, y.but hk hq (by decide) (by decide)⟩, f6 := by simpa [upd] using h.f6, f7 := fun _ => h7, e4 := by simpa [upd] using h.e4, e5 := by simpa [upd] using h.e5, e7 := fun _ => by simpa [upd] using h5 }

end Go.Proofs.YtdgnhfhaaghoaaaGreatDoor
