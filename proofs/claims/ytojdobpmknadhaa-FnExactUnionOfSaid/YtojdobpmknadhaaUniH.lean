/- Two copies made, a function called on them, its result stored: what holds behind the operations that have come up. -/
import Derived.Test.YtojdobpmknadhaaProg
import Derived.Test.YtojdobpmknadhaaUnionW
set_option linter.unusedVariables false
namespace Go.Proofs.Ytojdobpmknadhaa
open Go.RowKit

structure UH (W0 : World) (A B : Value) (a b R : Lab) (ok : Bool) (L : Nat → Bool) (v6 v7 v27 v28 v29 v30 v31 v32 v33 v34 : Value) (w : World) : Prop where
  z : Below W0.heap.size W0 w
  f0 : L 0 = true → v28 = A
  f1 : L 1 = true → L 9 = false → RLab w v29 a
  f2 : L 2 = true → v30 = B
  f3 : L 3 = true → L 9 = false → RLab w v31 b
  f4 : L 4 = true → ∃ r, v32 = .tuple #[r, .bool ok] ∧ (L 9 = false → OwnLab w (fun q => W0.heap.size ≤ q ∧ q < w.heap.size ∧ (L 8 = true → v6 ≠ .pointer (some ⟨q, 0, none⟩))) r R)
  f5 : L 5 = true → v27 = v32
  f6 : L 6 = true → v32 = .tuple #[v33, .bool ok]
  f7 : L 7 = true → v34 = .bool ok
  f8 : L 8 = true → ∃ p, v6 = .pointer (some ⟨p, 0, none⟩) ∧ W0.heap.size ≤ p ∧ p < w.heap.size ∧ (L 9 = false → w.heap[p]? = some (.cells #[.slice none 0 0, .slice none 0 0] 27))
  f9 : L 9 = true → ∃ p x y, v6 = .pointer (some ⟨p, 0, none⟩) ∧ W0.heap.size ≤ p ∧ w.heap[p]? = some (.cells #[x, y] 27) ∧ OwnLab w (fun q => W0.heap.size ≤ q ∧ q < w.heap.size ∧ q ≠ p) (.agg #[x, y]) R
  f10 : L 10 = true → v7 = .bool ok
  e5 : L 5 = true → L 4 = true
  e6 : L 6 = true → L 5 = true
  e7 : L 7 = true → L 5 = true
  e9 : L 9 = true → L 8 = true ∧ L 6 = true

theorem UH.below {W0 w w1 : World} {A B : Value} {a b R : Lab} {ok : Bool} {L : Nat → Bool} {v6 v7 v27 v28 v29 v30 v31 v32 v33 v34 : Value} (h : UH W0 A B a b R ok L v6 v7 v27 v28 v29 v30 v31 v32 v33 v34 w) (hb : Below w.heap.size w w1) : UH W0 A B a b R ok L v6 v7 v27 v28 v29 v30 v31 v32 v33 v34 w1 := by
  have hs := hb.size
  refine { h with z := h.z.trans (hb.mono h.z.size), f1 := fun x y => (h.f1 x y).below hb, f3 := fun x y => (h.f3 x y).below hb, f4 := fun x => ?_, f8 := fun x => ?_, f9 := fun x => ?_ }
  · obtain ⟨r, e, y⟩ := h.f4 x
    exact ⟨r, e, fun z => ((y z).below hb (Nat.le_refl _)).mono (fun q hq => ⟨hq.1, by omega, hq.2.2⟩)⟩
  · obtain ⟨p, e, h1, h2, y⟩ := h.f8 x
    exact ⟨p, e, h1, by omega, fun z => (hb.block p h2).trans (y z)⟩
  · obtain ⟨p, x, y, e, h1, h2, h3⟩ := h.f9 x
    exact ⟨p, x, y, e, h1, (hb.block p (Array.getElem?_eq_some_iff.1 h2).1).trans h2, (h3.below hb (Nat.le_refl _)).mono (fun q hq => ⟨hq.1, by omega, hq.2.2⟩)⟩

theorem UH.s0 {W0 w : World} {A B r : Value} {a b R : Lab} {ok : Bool} {L : Nat → Bool} {v6 v7 v27 v28 v29 v30 v31 v32 v33 v34 : Value} (h : UH W0 A B a b R ok L v6 v7 v27 v28 v29 v30 v31 v32 v33 v34 w) (hl : L 0 = false) (hn : r = A) : UH W0 A B a b R ok (upd L 0) v6 v7 v27 r v29 v30 v31 v32 v33 v34 w := by
  exact { z := h.z, f0 := fun _ => hn, f1 := by simpa [upd] using h.f1, f2 := by simpa [upd] using h.f2, f3 := by simpa [upd] using h.f3, f4 := by simpa [upd] using h.f4, f5 := by simpa [upd] using h.f5, f6 := by simpa [upd] using h.f6, f7 := by simpa [upd] using h.f7, f8 := by simpa [upd] using h.f8, f9 := by simpa [upd] using h.f9, f10 := by simpa [upd] using h.f10, e5 := by simpa [upd] using h.e5, e6 := by simpa [upd] using h.e6, e7 := by simpa [upd] using h.e7, e9 := by simpa [upd] using h.e9 }
theorem UH.s1 {W0 w : World} {A B r : Value} {a b R : Lab} {ok : Bool} {L : Nat → Bool} {v6 v7 v27 v28 v29 v30 v31 v32 v33 v34 : Value} (h : UH W0 A B a b R ok L v6 v7 v27 v28 v29 v30 v31 v32 v33 v34 w) (hl : L 1 = false) (hn : RLab w r a) : UH W0 A B a b R ok (upd L 1) v6 v7 v27 v28 r v30 v31 v32 v33 v34 w := by
  exact { z := h.z, f0 := by simpa [upd] using h.f0, f1 := fun _ _ => hn, f2 := by simpa [upd] using h.f2, f3 := by simpa [upd] using h.f3, f4 := by simpa [upd] using h.f4, f5 := by simpa [upd] using h.f5, f6 := by simpa [upd] using h.f6, f7 := by simpa [upd] using h.f7, f8 := by simpa [upd] using h.f8, f9 := by simpa [upd] using h.f9, f10 := by simpa [upd] using h.f10, e5 := by simpa [upd] using h.e5, e6 := by simpa [upd] using h.e6, e7 := by simpa [upd] using h.e7, e9 := by simpa [upd] using h.e9 }
theorem UH.s2 {W0 w : World} {A B r : Value} {a b R : Lab} {ok : Bool} {L : Nat → Bool} {v6 v7 v27 v28 v29 v30 v31 v32 v33 v34 : Value} (h : UH W0 A B a b R ok L v6 v7 v27 v28 v29 v30 v31 v32 v33 v34 w) (hl : L 2 = false) (hn : r = B) : UH W0 A B a b R ok (upd L 2) v6 v7 v27 v28 v29 r v31 v32 v33 v34 w := by
  exact { z := h.z, f0 := by simpa [upd] using h.f0, f1 := by simpa [upd] using h.f1, f2 := fun _ => hn, f3 := by simpa [upd] using h.f3, f4 := by simpa [upd] using h.f4, f5 := by simpa [upd] using h.f5, f6 := by simpa [upd] using h.f6, f7 := by simpa [upd] using h.f7, f8 := by simpa [upd] using h.f8, f9 := by simpa [upd] using h.f9, f10 := by simpa [upd] using h.f10, e5 := by simpa [upd] using h.e5, e6 := by simpa [upd] using h.e6, e7 := by simpa [upd] using h.e7, e9 := by simpa [upd] using h.e9 }
theorem UH.s3 {W0 w : World} {A B r : Value} {a b R : Lab} {ok : Bool} {L : Nat → Bool} {v6 v7 v27 v28 v29 v30 v31 v32 v33 v34 : Value} (h : UH W0 A B a b R ok L v6 v7 v27 v28 v29 v30 v31 v32 v33 v34 w) (hl : L 3 = false) (hn : RLab w r b) : UH W0 A B a b R ok (upd L 3) v6 v7 v27 v28 v29 v30 r v32 v33 v34 w := by
  exact { z := h.z, f0 := by simpa [upd] using h.f0, f1 := by simpa [upd] using h.f1, f2 := by simpa [upd] using h.f2, f3 := fun _ _ => hn, f4 := by simpa [upd] using h.f4, f5 := by simpa [upd] using h.f5, f6 := by simpa [upd] using h.f6, f7 := by simpa [upd] using h.f7, f8 := by simpa [upd] using h.f8, f9 := by simpa [upd] using h.f9, f10 := by simpa [upd] using h.f10, e5 := by simpa [upd] using h.e5, e6 := by simpa [upd] using h.e6, e7 := by simpa [upd] using h.e7, e9 := by simpa [upd] using h.e9 }
theorem UH.s4 {W0 w : World} {A B r : Value} {a b R : Lab} {ok : Bool} {L : Nat → Bool} {v6 v7 v27 v28 v29 v30 v31 v32 v33 v34 : Value} (h : UH W0 A B a b R ok L v6 v7 v27 v28 v29 v30 v31 v32 v33 v34 w) (hl : L 4 = false) (hn : ∃ x, r = .tuple #[x, .bool ok] ∧ OwnLab w (fun q => W0.heap.size ≤ q ∧ q < w.heap.size ∧ (L 8 = true → v6 ≠ .pointer (some ⟨q, 0, none⟩))) x R) : UH W0 A B a b R ok (upd L 4) v6 v7 v27 v28 v29 v30 v31 r v33 v34 w := by
  have n5 : L 5 = false := by
    cases e : L 5
    · rfl
    · exact absurd (h.e5 e) (by simp [hl])
  have n6 : L 6 = false := by
    cases e : L 6
    · rfl
    · exact absurd (h.e6 e) (by simp [n5])
  have n9 : L 9 = false := by
    cases e : L 9
    · rfl
    · exact absurd (h.e9 e).2 (by simp [n6])
  exact { z := h.z, f0 := by simpa [upd] using h.f0, f1 := by simpa [upd] using h.f1, f2 := by simpa [upd] using h.f2, f3 := by simpa [upd] using h.f3, f4 := fun _ => by obtain ⟨x, e, y⟩ := hn; exact ⟨x, e, fun _ => by simpa [upd] using y⟩, f5 := fun y => by simp [upd, n5] at y, f6 := fun y => by simp [upd, n6] at y, f7 := by simpa [upd] using h.f7, f8 := by simpa [upd] using h.f8, f9 := by simpa [upd] using h.f9, f10 := by simpa [upd] using h.f10, e5 := fun y => by simp [upd, n5] at y, e6 := by simpa [upd] using h.e6, e7 := by simpa [upd] using h.e7, e9 := by simpa [upd] using h.e9 }
theorem UH.s5 {W0 w : World} {A B r : Value} {a b R : Lab} {ok : Bool} {L : Nat → Bool} {v6 v7 v27 v28 v29 v30 v31 v32 v33 v34 : Value} (h : UH W0 A B a b R ok L v6 v7 v27 v28 v29 v30 v31 v32 v33 v34 w) (hl : L 5 = false) (hn : r = v32 ∧ L 4 = true) : UH W0 A B a b R ok (upd L 5) v6 v7 r v28 v29 v30 v31 v32 v33 v34 w := by
  have n6 : L 6 = false := by
    cases e : L 6
    · rfl
    · exact absurd (h.e6 e) (by simp [hl])
  have n7 : L 7 = false := by
    cases e : L 7
    · rfl
    · exact absurd (h.e7 e) (by simp [hl])
  exact { z := h.z, f0 := by simpa [upd] using h.f0, f1 := by simpa [upd] using h.f1, f2 := by simpa [upd] using h.f2, f3 := by simpa [upd] using h.f3, f4 := by simpa [upd] using h.f4, f5 := fun _ => hn.1, f6 := by simpa [upd] using h.f6, f7 := by simpa [upd] using h.f7, f8 := by simpa [upd] using h.f8, f9 := by simpa [upd] using h.f9, f10 := by simpa [upd] using h.f10, e5 := fun _ => by simpa [upd] using hn.2, e6 := fun y => by simp [upd, n6] at y, e7 := fun y => by simp [upd, n7] at y, e9 := by simpa [upd] using h.e9 }
theorem UH.s6 {W0 w : World} {A B r : Value} {a b R : Lab} {ok : Bool} {L : Nat → Bool} {v6 v7 v27 v28 v29 v30 v31 v32 v33 v34 : Value} (h : UH W0 A B a b R ok L v6 v7 v27 v28 v29 v30 v31 v32 v33 v34 w) (hl : L 6 = false) (hn : v32 = .tuple #[r, .bool ok] ∧ L 5 = true) : UH W0 A B a b R ok (upd L 6) v6 v7 v27 v28 v29 v30 v31 v32 r v34 w := by
  have n9 : L 9 = false := by
    cases e : L 9
    · rfl
    · exact absurd (h.e9 e).2 (by simp [hl])
  exact { z := h.z, f0 := by simpa [upd] using h.f0, f1 := by simpa [upd] using h.f1, f2 := by simpa [upd] using h.f2, f3 := by simpa [upd] using h.f3, f4 := by simpa [upd] using h.f4, f5 := by simpa [upd] using h.f5, f6 := fun _ => hn.1, f7 := by simpa [upd] using h.f7, f8 := by simpa [upd] using h.f8, f9 := fun y => by simp [upd, n9] at y, f10 := by simpa [upd] using h.f10, e5 := by simpa [upd] using h.e5, e6 := fun _ => by simpa [upd] using hn.2, e7 := by simpa [upd] using h.e7, e9 := fun y => by simp [upd, n9] at y }
theorem UH.s7 {W0 w : World} {A B r : Value} {a b R : Lab} {ok : Bool} {L : Nat → Bool} {v6 v7 v27 v28 v29 v30 v31 v32 v33 v34 : Value} (h : UH W0 A B a b R ok L v6 v7 v27 v28 v29 v30 v31 v32 v33 v34 w) (hl : L 7 = false) (hn : r = .bool ok ∧ L 5 = true) : UH W0 A B a b R ok (upd L 7) v6 v7 v27 v28 v29 v30 v31 v32 v33 r w := by
  exact { z := h.z, f0 := by simpa [upd] using h.f0, f1 := by simpa [upd] using h.f1, f2 := by simpa [upd] using h.f2, f3 := by simpa [upd] using h.f3, f4 := by simpa [upd] using h.f4, f5 := by simpa [upd] using h.f5, f6 := by simpa [upd] using h.f6, f7 := fun _ => hn.1, f8 := by simpa [upd] using h.f8, f9 := by simpa [upd] using h.f9, f10 := by simpa [upd] using h.f10, e5 := by simpa [upd] using h.e5, e6 := by simpa [upd] using h.e6, e7 := fun _ => by simpa [upd] using hn.2, e9 := by simpa [upd] using h.e9 }
theorem UH.s8 {W0 w : World} {A B r : Value} {a b R : Lab} {ok : Bool} {L : Nat → Bool} {v6 v7 v27 v28 v29 v30 v31 v32 v33 v34 : Value} (h : UH W0 A B a b R ok L v6 v7 v27 v28 v29 v30 v31 v32 v33 v34 w) (hl : L 8 = false) (hn : ∃ p, r = .pointer (some ⟨p, 0, none⟩) ∧ W0.heap.size ≤ p ∧ p < w.heap.size ∧ w.heap[p]? = some (.cells #[.slice none 0 0, .slice none 0 0] 27) ∧ (L 4 = true → ∀ x, v32 = .tuple #[x, .bool ok] → OwnLab w (fun q => W0.heap.size ≤ q ∧ q < w.heap.size ∧ q ≠ p) x R)) : UH W0 A B a b R ok (upd L 8) r v7 v27 v28 v29 v30 v31 v32 v33 v34 w := by
  have n9 : L 9 = false := by
    cases e : L 9
    · rfl
    · exact absurd (h.e9 e).1 (by simp [hl])
  exact { z := h.z, f0 := by simpa [upd] using h.f0, f1 := by simpa [upd] using h.f1, f2 := by simpa [upd] using h.f2, f3 := by simpa [upd] using h.f3, f4 := fun x => by obtain ⟨x4, e, y⟩ := h.f4 (by simpa [upd] using x); obtain ⟨p, e8, _, _, _, hx⟩ := hn; exact ⟨x4, e, fun _ => (hx (by simpa [upd] using x) x4 e).mono (fun q hq => ⟨hq.1, hq.2.1, fun _ e9 => hq.2.2 (by rw [e8] at e9; injection e9 with e9; injection e9 with e9; injection e9 with e9; exact e9.symm)⟩)⟩, f5 := by simpa [upd] using h.f5, f6 := by simpa [upd] using h.f6, f7 := by simpa [upd] using h.f7, f8 := fun _ => by obtain ⟨p, e, h1, h2, y, _⟩ := hn; exact ⟨p, e, h1, h2, fun _ => y⟩, f9 := fun y => by simp [upd, n9] at y, f10 := by simpa [upd] using h.f10, e5 := by simpa [upd] using h.e5, e6 := by simpa [upd] using h.e6, e7 := by simpa [upd] using h.e7, e9 := fun y => by simp [upd, n9] at y }
theorem UH.s10 {W0 w : World} {A B r : Value} {a b R : Lab} {ok : Bool} {L : Nat → Bool} {v6 v7 v27 v28 v29 v30 v31 v32 v33 v34 : Value} (h : UH W0 A B a b R ok L v6 v7 v27 v28 v29 v30 v31 v32 v33 v34 w) (hl : L 10 = false) (hn : r = .bool ok) : UH W0 A B a b R ok (upd L 10) v6 r v27 v28 v29 v30 v31 v32 v33 v34 w := by
  exact { z := h.z, f0 := by simpa [upd] using h.f0, f1 := by simpa [upd] using h.f1, f2 := by simpa [upd] using h.f2, f3 := by simpa [upd] using h.f3, f4 := by simpa [upd] using h.f4, f5 := by simpa [upd] using h.f5, f6 := by simpa [upd] using h.f6, f7 := by simpa [upd] using h.f7, f8 := by simpa [upd] using h.f8, f9 := by simpa [upd] using h.f9, f10 := fun _ => hn, e5 := by simpa [upd] using h.e5, e6 := by simpa [upd] using h.e6, e7 := by simpa [upd] using h.e7, e9 := by simpa [upd] using h.e9 }
theorem UH.s9 {W0 w w1 : World} {A B : Value} {a b R : Lab} {ok : Bool} {L : Nat → Bool} {v6 v7 v27 v28 v29 v30 v31 v32 v33 v34 : Value} (h : UH W0 A B a b R ok L v6 v7 v27 v28 v29 v30 v31 v32 v33 v34 w) (hl : L 9 = false) (hz : Below W0.heap.size W0 w1) (hs : w1.heap.size = w.heap.size) (he : L 8 = true ∧ L 6 = true) (hn : ∃ p x y, v6 = .pointer (some ⟨p, 0, none⟩) ∧ W0.heap.size ≤ p ∧ w1.heap[p]? = some (.cells #[x, y] 27) ∧ OwnLab w1 (fun q => W0.heap.size ≤ q ∧ q < w1.heap.size ∧ q ≠ p) (.agg #[x, y]) R) : UH W0 A B a b R ok (upd L 9) v6 v7 v27 v28 v29 v30 v31 v32 v33 v34 w1 := by
  exact { z := hz, f0 := by simpa [upd] using h.f0, f1 := fun _ y => by simp [upd] at y, f2 := by simpa [upd] using h.f2, f3 := fun _ y => by simp [upd] at y, f4 := fun x => by obtain ⟨r, e, _⟩ := h.f4 (by simpa [upd] using x); exact ⟨r, e, fun y => by simp [upd] at y⟩, f5 := by simpa [upd] using h.f5, f6 := by simpa [upd] using h.f6, f7 := by simpa [upd] using h.f7, f8 := fun x => by obtain ⟨p, e, h1, h2, _⟩ := h.f8 (by simpa [upd] using x); exact ⟨p, e, h1, by omega, fun y => by simp [upd] at y⟩, f9 := fun _ => hn, f10 := by simpa [upd] using h.f10, e5 := by simpa [upd] using h.e5, e6 := by simpa [upd] using h.e6, e7 := by simpa [upd] using h.e7, e9 := fun _ => by simpa [upd] using he }

end Go.Proofs.Ytojdobpmknadhaa
