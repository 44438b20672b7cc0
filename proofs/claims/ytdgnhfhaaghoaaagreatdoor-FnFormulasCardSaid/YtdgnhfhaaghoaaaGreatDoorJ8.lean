/- Tables of rows of numbers: one row more, one row put in another's place; l7Rows walked. -/
import Derived.Test.YtdgnhfhaaghoaaaGreatDoorProg
import Derived.Test.YtdgnhfhaaghoaaaGreatDoorJ4
import Derived.Test.YtdgnhfhaaghoaaaGreatDoorJ7
import Derived.Test.YtdgnhfhaaghoaaaGreatDoorJ0
set_option linter.unusedSimpArgs false
set_option linter.unusedVariables false
namespace Go.Proofs.YtdgnhfhaaghoaaaGreatDoor
open Go.RowKit

theorem el_int : El Tryz.prog 30 3 1 8 := El.mk' Tryz.underlying30 (by kernel_rfl : _ = some (some (.int .i64 0), 1, 8)) rfl (by decide)
theorem el_ints : El Tryz.prog 24 30 1 24 := El.mk' Tryz.underlying24 (by kernel_rfl : _ = some (some (.slice none 0 0), 1, 24)) rfl (by decide)
theorem el_a3 : El Tryz.prog 25 103 3 24 := El.mk' Tryz.underlying25 (by kernel_rfl : _ = some (some (.agg #[.int .i64 0, .int .i64 0, .int .i64 0]), 3, 24)) rfl (by decide)

theorem owns_kept {w w' : World} {S : Nat → Prop} {B : Nat} {e : TypeId} {s : Nat} {v : Value} {n : Nat} {xs : List Value} (h : w.ownsRow B e s v n xs) (hk : Kept S w w') (hd : ∀ g, v.ownBlock = some g → ¬ S g) : w'.ownsRow B e s v n xs := by
  refine ⟨h.1, ?_⟩
  rcases h.2 with hn | ⟨g, cap, cur, rfl, hbg, hg, rest⟩
  · exact .inl hn
  · have := (Array.getElem?_eq_some_iff.1 hg).1
    exact .inr ⟨g, cap, cur, rfl, hbg, by rw [hk.block g this (hd g rfl)]; exact hg, rest⟩

/-- A table whose rows are all there. -/
def TRN (w : World) (B : Nat) (u : Value) (xss : List (List Int)) : Prop :=
  ∃ vs : List Value, w.ownsRow B 30 1 u xss.length vs ∧ (∀ (i : Nat) v xs, vs[i]? = some v → xss[i]? = some xs → w.ownsRow B 3 1 v xs.length (ints xs)) ∧
    (∀ (i j : Nat) v v' b, i < j → vs[i]? = some v → vs[j]? = some v' → v.ownBlock = some b → v'.ownBlock ≠ some b) ∧ ∀ (i : Nat) v, vs[i]? = some v → ∃ b, v.ownBlock = some b

section
variable {w w1 w2 w' : World} {B : Nat} {u u2 r : Value} {l : List (List Int)} {x : List Int} {vs : List Value}
theorem TRN.rows (h : TRN w B u l) : TRows w B u l := by
  obtain ⟨vs, a, b, c, _⟩ := h
  exact ⟨vs, a, b, c⟩
theorem TRN.nil (h : w.ownsRow B 30 1 u 0 []) : TRN w B u [] := ⟨[], h, fun i v xs h => by simp at h, fun i j v v' b _ h => by simp at h, fun i v h => by simp at h⟩
theorem TRN.below {B2 : Nat} (h : TRN w B u l) (hb : Below B2 w w') (hB : w.heap.size ≤ B2) : TRN w' B u l := by
  obtain ⟨vs, h1, h2, h3, h4⟩ := h
  exact ⟨vs, owns_below h1 hb hB, fun i v xs a b => owns_below (h2 i v xs a b) hb hB, h3, h4⟩
theorem TRN.kept {S : Nat → Prop} (h : TRN w B u l) (hk : Kept S w w') (hd : ∀ (vs : List Value), w.ownsRow B 30 1 u l.length vs → (∀ g, u.ownBlock = some g → ¬ S g) ∧ ∀ (v : Value) n xs, w.ownsRow B 3 1 v n xs → ∀ g, v.ownBlock = some g → ¬ S g) : TRN w' B u l := by
  obtain ⟨vs, h1, h2, h3, h4⟩ := h
  obtain ⟨d1, d2⟩ := hd vs h1
  exact ⟨vs, owns_kept h1 hk d1, fun i v xs a b => owns_kept (h2 i v xs a b) hk (d2 _ _ _ (h2 i v xs a b)), h3, h4⟩
theorem TRN.push (h1 : w.ownsRow B 30 1 u l.length vs) (h2 : ∀ (i : Nat) v xs, vs[i]? = some v → l[i]? = some xs → w.ownsRow B 3 1 v xs.length (ints xs))
    (h3 : ∀ (i j : Nat) v v' b, i < j → vs[i]? = some v → vs[j]? = some v' → v.ownBlock = some b → v'.ownBlock ≠ some b) (h4 : ∀ (i : Nat) v, vs[i]? = some v → ∃ b, v.ownBlock = some b)
    (hB : B ≤ w.heap.size) (hr : w1.ownsRow w.heap.size 3 1 r x.length (ints x)) (hn : ∃ b, r.ownBlock = some b) (hb : Below w.heap.size w w1)
    (ho : w2.ownsRow B 30 1 u2 (l.length + 1) (vs ++ [r])) (hk : Kept (fun q => u.ownBlock = some q) w1 w2) : TRN w2 B u2 (l ++ [x]) := by
  have hvl : vs.length = l.length := by have := h1.1; omega
  have hu1 : w1.ownsRow B 30 1 u l.length vs := owns_below h1 hb (Nat.le_refl _)
  refine ⟨vs ++ [r], by rw [List.length_append]; exact ho, fun i v xs hv hx => ?_, fun i j v v' b hij hv hv' hvb => ?_, fun i v hv => ?_⟩
  · rcases Nat.lt_trichotomy i vs.length with hi | hi | hi
    · rw [List.getElem?_append_left hi] at hv
      rw [List.getElem?_append_left (by omega)] at hx
      have ha := owns_below (h2 i v xs hv hx) hb (Nat.le_refl _)
      exact owns_kept ha hk (fun g hgv => owns_apart' ha hu1 (by decide) g hgv)
    · subst hi
      rw [List.getElem?_append_right (Nat.le_refl _), Nat.sub_self] at hv
      rw [hvl, List.getElem?_append_right (Nat.le_refl _), Nat.sub_self] at hx
      simp at hv hx
      subst hv
      subst hx
      have ha := owns_mono hr hB
      exact owns_kept ha hk (fun g hgv => owns_apart' ha hu1 (by decide) g hgv)
    · rw [List.getElem?_eq_none (by simp; omega)] at hv
      cases hv
  · have hj : j ≤ vs.length := by
      have := (List.getElem?_eq_some_iff.1 hv').1
      simp at this
      omega
    rw [List.getElem?_append_left (by omega)] at hv
    rcases Nat.lt_or_eq_of_le hj with hj | hj
    · rw [List.getElem?_append_left hj] at hv'
      exact h3 i j v v' b hij hv hv' hvb
    · subst hj
      rw [List.getElem?_append_right (Nat.le_refl _), Nat.sub_self] at hv'
      simp at hv'
      subst hv'
      have hil : i < l.length := by omega
      have a1 := ((h2 i v _ hv (List.getElem?_eq_getElem hil)).lt b hvb).2
      intro e
      have a2 := (hr.lt b e).1
      omega
  · rcases Nat.lt_trichotomy i vs.length with hi | hi | hi
    · rw [List.getElem?_append_left hi] at hv
      exact h4 i v hv
    · subst hi
      rw [List.getElem?_append_right (Nat.le_refl _), Nat.sub_self] at hv
      simp at hv
      subst hv
      exact hn
    · rw [List.getElem?_eq_none (by simp; omega)] at hv
      cases hv

/-- A row in another's place. -/
theorem TRN.put {g c n i : Nat} (h : TRN w B (.slice (some ⟨g, 0, none⟩) n c) l) (hl : l.length = n) (hi : i < n) (hB : B ≤ w.heap.size) (hr : w1.ownsRow w.heap.size 3 1 r x.length (ints x)) (hn : ∃ b, r.ownBlock = some b) (hb : Below w.heap.size w w1) :
    TRN (w1.setCell ⟨g, i, none⟩ r) B (.slice (some ⟨g, 0, none⟩) n c) (l.set i x) := by
  subst hl
  obtain ⟨vs, h1, h2, h3, h4⟩ := h
  have hvl : vs.length = l.length := by have := h1.1; omega
  have hu1 := owns_below h1 hb (Nat.le_refl _)
  have hst := hu1.stored i r
  have hk : Kept (fun q => q = g) w1 (w1.setCell ⟨g, i, none⟩ r) := (Kept.refl _ _).setCell (S := fun q => q = g) (p := ⟨g, i, none⟩) rfl r
  have hap : ∀ {v : Value} {m : Nat} {cs : List Value}, w1.ownsRow B 3 1 v m cs → (w1.setCell ⟨g, i, none⟩ r).ownsRow B 3 1 v m cs := fun {v m cs} ha =>
    owns_kept ha hk (fun b hb e => by subst e; exact owns_apart' ha hu1 (by decide) b hb rfl)
  have hown := hst.1
  refine ⟨vs.set i r, by rw [List.length_set]; exact hown, fun j v xs hv hx => ?_, fun j k v v' b hjk hv hv' hvb => ?_, fun j v hv => ?_⟩
  · by_cases e : i = j
    · subst e
      rw [List.getElem?_set_self (by omega)] at hv hx
      injection hv with hv
      injection hx with hx
      subst hv
      subst hx
      exact hap (owns_mono hr hB)
    · rw [List.getElem?_set_ne e] at hv hx
      exact hap (owns_below (h2 j v xs hv hx) hb (Nat.le_refl _))
  · have hlt : ∀ (j : Nat) v, vs[j]? = some v → v.ownBlock = some b → b < w.heap.size := fun j v hv hvb => by
      have hj := (List.getElem?_eq_some_iff.1 hv).1
      exact ((h2 j v _ hv (List.getElem?_eq_getElem (by omega))).lt b hvb).2
    by_cases e : i = j
    · subst e
      rw [List.getElem?_set_self (by omega)] at hv
      rw [List.getElem?_set_ne (by omega)] at hv'
      injection hv with hv
      subst hv
      intro e'
      have := hlt k v' hv' e'
      have := (hr.lt b hvb).1
      omega
    · rw [List.getElem?_set_ne e] at hv
      by_cases e2 : i = k
      · subst e2
        rw [List.getElem?_set_self (by omega)] at hv'
        injection hv' with hv'
        subst hv'
        intro e'
        have := hlt j v hv hvb
        have := (hr.lt b e').1
        omega
      · rw [List.getElem?_set_ne e2] at hv'
        exact h3 j k v v' b hjk hv hv' hvb
  · by_cases e : i = j
    · subst e
      rw [List.getElem?_set_self (by omega)] at hv
      injection hv with hv
      subst hv
      exact hn
    · rw [List.getElem?_set_ne e] at hv
      exact h4 j v hv

/-- A row, read: where it is and what it holds. -/
theorem TRN.at_ {i : Nat} (h : TRN w B u l) (hi : i < l.length) : ∃ g c b d, u = .slice (some ⟨g, 0, none⟩) l.length c ∧ B ≤ g ∧ g < w.heap.size ∧ B ≤ b ∧ w.cell? ⟨g, i, none⟩ = some (.slice (some ⟨b, 0, none⟩) (l[i]).length d) ∧ w.frozen? ⟨g, i, none⟩ = false ∧ (l[i]).length ≤ d ∧ Cells w (some ⟨b, 0, none⟩) (ints l[i]) := by
  obtain ⟨vs, h1, h2, h3, h4⟩ := h
  have hvl : vs.length = l.length := by have := h1.1; omega
  have hv : vs[i]? = some (vs[i]'(by omega)) := List.getElem?_eq_getElem (by omega)
  have ho := h2 i _ _ hv (List.getElem?_eq_getElem hi)
  obtain ⟨b, hb⟩ := h4 i _ hv
  have h1' := h1
  rcases h1.2 with ⟨_, e⟩ | ⟨g, c, cur, rfl, hg0, hg1, _⟩
  · omega
  have hc := h1'.cellAt i (by omega)
  have hf := h1'.frozenAt i
  rw [hv] at hc
  rcases ho.2 with ⟨e, _⟩ | ⟨b', d, cur', e, hb0, _, hd, _⟩
  · rw [e] at hb
    simp [Value.ownBlock] at hb
  rw [e] at hb hc ho
  simp only [Value.ownBlock, Option.some.injEq] at hb
  subst hb
  exact ⟨g, c, b', d, rfl, hg0, (Array.getElem?_eq_some_iff.1 hg1).1, hb0, hc, hf, hd, Cells.of_owns ho⟩
end

theorem made_row (w : World) (t : TypeId) : (w.alloc (.cells #[] t)).ownsRow w.heap.size t 1 (.slice (some ⟨w.heap.size, 0, none⟩) 0 0) 0 [] := World.ownsRow_made w #[] 0 (Nat.le_refl _) (Nat.zero_le _) rfl

end Go.Proofs.YtdgnhfhaaghoaaaGreatDoor
