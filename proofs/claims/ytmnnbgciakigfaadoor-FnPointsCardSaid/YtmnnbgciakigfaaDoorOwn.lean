/- Memory that a call has made: rows that may be written, and what keeps them. No program is in sight. -/
import Derived.Test.YtmnnbgciakigfaaDoorBase
set_option linter.unusedVariables false
namespace Go.Proofs.YtmnnbgciakigfaaDoor
open Go.RowKit

/-- The slice v of n elements reads as the cells cs, which may be written and lie in blocks of S. -/
def Own (w : World) (S : Nat → Prop) (v : Value) (n : Nat) (cs : List Value) : Prop :=
  ∃ A c, v = .slice A n c ∧ (cs = [] ∨ ∃ g o, A = some ⟨g, o, none⟩ ∧ S g ∧ ∀ j u, cs[j]? = some u → w.cell? ⟨g, o + j, none⟩ = some u ∧ w.frozen? ⟨g, o + j, none⟩ = false)

/-- Outside S nothing that was there has turned. -/
structure Kept (S : Nat → Prop) (w w' : World) : Prop where
  os : w'.os = w.os
  tape : w'.tape = w.tape
  output : w'.output = w.output
  size : w.heap.size ≤ w'.heap.size
  block : ∀ k, k < w.heap.size → ¬ S k → w'.heap[k]? = w.heap[k]?

section
variable {w w' w'' : World} {S T : Nat → Prop} {v : Value} {n : Nat} {cs : List Value}

theorem Kept.refl (S : Nat → Prop) (w : World) : Kept S w w := ⟨rfl, rfl, rfl, Nat.le_refl _, fun _ _ _ => rfl⟩
theorem Kept.trans (h : Kept S w w') (k : Kept S w' w'') : Kept S w w'' :=
  ⟨k.os.trans h.os, k.tape.trans h.tape, k.output.trans h.output, Nat.le_trans h.size k.size, fun b hb hs => (k.block b (Nat.lt_of_lt_of_le hb h.size) hs).trans (h.block b hb hs)⟩
theorem Kept.mono (h : Kept S w w') (hs : ∀ b, S b → T b) : Kept T w w' := ⟨h.os, h.tape, h.output, h.size, fun b hb ht => h.block b hb (fun k => ht (hs b k))⟩
theorem Kept.of_below (h : Below w.heap.size w w') (S : Nat → Prop) : Kept S w w' := ⟨h.os, h.tape, h.output, h.size, fun b hb _ => h.block b hb⟩
theorem Kept.below {B : Nat} (h : Kept S w w') (hs : ∀ b, S b → B ≤ b) (hB : B ≤ w.heap.size) : Below B w w' := ⟨h.os, h.tape, h.output, h.size, fun b hb => h.block b (by omega) (fun k => by have := hs b k; omega)⟩
theorem Kept.drew (h : Kept S w w') : Kept S w w'.drew := ⟨h.os, h.tape, h.output, h.size, h.block⟩
theorem Kept.setCell (h : Kept S w w') {p : Addr} (hp : S p.block) (u : Value) : Kept S w (w'.setCell p u) :=
  ⟨h.os, h.tape, h.output, by simpa [World.setCell] using h.size, fun b hb hs => (Below.heap_setCell w' p u b (fun e => hs (by rw [e]; exact hp))).trans (h.block b hb hs)⟩

theorem lt_of_cell {p : Addr} {u : Value} (h : w.cell? p = some u) : p.block < w.heap.size := World.block_lt_of_cell? w p h

/-- A row outside of what has turned. -/
theorem Own.kept (h : Own w S v n cs) (hk : Kept T w w') (hd : ∀ b, S b → ¬ T b) : Own w' S v n cs := by
  obtain ⟨A, c, e, h⟩ := h
  refine ⟨A, c, e, ?_⟩
  rcases h with h | ⟨g, o, rfl, hg, hc⟩
  · exact .inl h
  · refine .inr ⟨g, o, rfl, hg, fun j u hj => ?_⟩
    obtain ⟨h1, h2⟩ := hc j u hj
    have hb := hk.block g (lt_of_cell h1) (hd g hg)
    exact ⟨(World.cell?_of_block (a := ⟨g, o + j, none⟩) hb).trans h1, (World.frozen?_of_block (a := ⟨g, o + j, none⟩) hb).trans h2⟩

theorem Own.below {B : Nat} (h : Own w S v n cs) (hb : Below B w w') (hB : w.heap.size ≤ B) : Own w' S v n cs :=
  h.kept (T := fun _ => False) ⟨hb.os, hb.tape, hb.output, hb.size, fun b hb' _ => hb.block b (by omega)⟩ (fun _ _ k => k)

theorem Own.mono (h : Own w S v n cs) (hs : ∀ b, S b → T b) : Own w T v n cs := by
  obtain ⟨A, c, e, h⟩ := h
  refine ⟨A, c, e, ?_⟩
  rcases h with h | ⟨g, o, rfl, hg, hc⟩
  · exact .inl h
  · exact .inr ⟨g, o, rfl, hs g hg, hc⟩

theorem Own.cells (h : Own w S v n cs) : ∃ A c, v = .slice A n c ∧ Cells w A cs := by
  obtain ⟨A, c, e, h⟩ := h
  refine ⟨A, c, e, ?_⟩
  rcases h with rfl | ⟨g, o, rfl, hg, hc⟩
  · exact Cells.nil _ _
  · exact fun j u hj => ⟨g, o, rfl, (hc j u hj).1⟩

theorem Own.of_owns {base : Nat} {e : TypeId} {size : Nat} (h : w.ownsRow base e size v n cs) : Own w (fun b => v.ownBlock = some b) v n cs := by
  rcases h.2 with ⟨rfl, rfl⟩ | ⟨g, cap, cur, rfl, hb, hg, h1, h2, h3, h4⟩
  · exact ⟨none, 0, rfl, .inl (List.eq_nil_of_length_eq_zero (by simpa using h.1))⟩
  · refine ⟨_, _, rfl, .inr ⟨g, 0, rfl, rfl, fun j u hj => ?_⟩⟩
    have hl := (List.getElem?_eq_some_iff.1 hj).1
    rw [Nat.zero_add]
    refine ⟨?_, frozen_of_row w g j cur e hg⟩
    rw [cell_of_row w g j cur _ _ hg]
    rw [← h4, List.getElem?_take, if_pos (by have := h.1; omega)] at hj
    simpa using hj

/-- One cell of a row is written. -/
theorem Own.set (h : Own w S v n cs) (k : Nat) (u : Value) {g o c : Nat} (hv : v = .slice (some ⟨g, o, none⟩) n c) (hk : k < cs.length) : Own (w.setCell ⟨g, o + k, none⟩ u) S v n (cs.set k u) := by
  obtain ⟨A, c', e, h⟩ := h
  subst hv
  cases e
  refine ⟨_, _, rfl, ?_⟩
  rcases h with rfl | ⟨g', o', e, hg, hc⟩
  · simp at hk
  · cases e
    refine .inr ⟨g, o, rfl, hg, fun j u' hj => ?_⟩
    rw [World.frozen?_setCell]
    have hjl : j < cs.length := by have := (List.getElem?_eq_some_iff.1 hj).1; simpa using this
    obtain ⟨h1, h2⟩ := hc j _ (List.getElem?_eq_getElem hjl)
    refine ⟨?_, h2⟩
    by_cases hjk : k = j
    · subst hjk
      simp [hk] at hj
      subst hj
      exact World.cell?_setCell_same w _ _ h1
    · rw [World.cell?_setCell_other _ _ _ _ (by intro e; simp only [Addr.mk.injEq, true_and, and_true] at e; omega)]
      rw [List.getElem?_set_ne hjk] at hj
      rw [List.getElem?_eq_getElem hjl] at hj
      injection hj with hj
      rw [← hj]
      exact h1
end

theorem Own.at_ {w : World} {S : Nat → Prop} {v : Value} {n : Nat} {cs : List Value} (h : Own w S v n cs) {k : Nat} (hk : k < cs.length) :
    ∃ g o c, v = .slice (some ⟨g, o, none⟩) n c ∧ S g ∧ ∀ j u, cs[j]? = some u → w.cell? ⟨g, o + j, none⟩ = some u ∧ w.frozen? ⟨g, o + j, none⟩ = false := by
  obtain ⟨A, c, e, h⟩ := h
  rcases h with rfl | ⟨g, o, rfl, hg, hc⟩
  · simp at hk
  · exact ⟨g, o, c, e, hg, hc⟩

theorem Own.new (w : World) (cs : List Value) (t : TypeId) (n c : Nat) :
    Own (w.alloc (.cells cs.toArray t)) (fun b => w.heap.size ≤ b ∧ b < (w.alloc (.cells cs.toArray t)).heap.size) (.slice (some ⟨w.heap.size, 0, none⟩) n c) n cs := by
  refine ⟨_, _, rfl, .inr ⟨w.heap.size, 0, rfl, ⟨Nat.le_refl _, by simp⟩, fun j u hj => ?_⟩⟩
  have hg := heap_alloc_new w (.cells cs.toArray t)
  rw [Nat.zero_add]
  exact ⟨by rw [cell_of_row _ _ _ _ _ _ hg]; simpa using hj, frozen_of_row _ _ _ _ _ hg⟩

/-- Three blocks that a call laid at its head, behind a call of another function. -/
theorem three_boxes {w w1 : World} {o1 o2 o3 : Obj} (h : Below (((w.alloc o1).alloc o2).alloc o3).heap.size (((w.alloc o1).alloc o2).alloc o3) w1) :
    w1.heap[w.heap.size]? = some o1 ∧ w1.heap[w.heap.size + 1]? = some o2 ∧ w1.heap[w.heap.size + 1 + 1]? = some o3 ∧ w.heap.size + 1 + 1 < w1.heap.size := by
  have hs := h.size
  simp only [World.size_alloc] at hs
  refine ⟨?_, ?_, ?_, by omega⟩
  · rw [h.block _ (by simp; omega), heap_alloc_old _ _ (by simp; omega), heap_alloc_old _ _ (by simp), heap_alloc_new]
  · rw [h.block _ (by simp), heap_alloc_old _ _ (by simp)]
    have := heap_alloc_new (w.alloc o1) o2
    rwa [World.size_alloc] at this
  · rw [h.block _ (by simp)]
    have := heap_alloc_new ((w.alloc o1).alloc o2) o3
    rwa [World.size_alloc, World.size_alloc] at this

theorem two_boxes {w w1 : World} {o1 o2 : Obj} (h : Below ((w.alloc o1).alloc o2).heap.size ((w.alloc o1).alloc o2) w1) :
    w1.heap[w.heap.size]? = some o1 ∧ w1.heap[w.heap.size + 1]? = some o2 ∧ w.heap.size + 1 < w1.heap.size := by
  have hs := h.size
  simp only [World.size_alloc] at hs
  refine ⟨?_, ?_, by omega⟩
  · rw [h.block _ (by simp; omega), heap_alloc_old _ _ (by simp), heap_alloc_new]
  · rw [h.block _ (by simp)]
    have := heap_alloc_new (w.alloc o1) o2
    rwa [World.size_alloc] at this

theorem one_box {w w1 : World} {o1 : Obj} (h : Below (w.alloc o1).heap.size (w.alloc o1) w1) : w1.heap[w.heap.size]? = some o1 ∧ w.heap.size < w1.heap.size := by
  have hs := h.size
  simp only [World.size_alloc] at hs
  refine ⟨?_, by omega⟩
  rw [h.block _ (by simp), heap_alloc_new]

/-- A round of a loop that fills a slice of slices: the row u, made in this round, goes to place k of the outer row, which lies at block B. -/
theorem rows_step {w0 wr w1 : World} {B0 B n k : Nat} {eo e : TypeId} {z u : Value} {vs : List Value} {xss : List (List Int)} {x : List Int}
    (hown : wr.ownsRow B0 eo 1 (.slice (some ⟨B, 0, none⟩) n n) n (vs ++ List.replicate (n - k) z)) (hl : vs.length = k) (hk : k < n) (hB0 : B0 ≤ B)
    (hbel : Below B0 w0 wr)
    (hrows : ∀ (i : Nat) u xs, vs[i]? = some u → xss[i]? = some xs → wr.ownsRow (B + 1) e 1 u xs.length (ints xs))
    (hdis : ∀ (i j : Nat) u u' b, i < j → vs[i]? = some u → vs[j]? = some u' → u.ownBlock = some b → u'.ownBlock ≠ some b)
    (hx : xss[k]? = some x) (hvk : ∀ i, k ≤ i → vs[i]? = none) (hlen : ∀ (i : Nat) u, vs[i]? = some u → ∃ xs, xss[i]? = some xs)
    (hu : w1.ownsRow wr.heap.size e 1 u x.length (ints x)) (hb1 : Below wr.heap.size wr w1) :
    w1.cell? ⟨B, k, none⟩ = some z ∧ w1.frozen? ⟨B, k, none⟩ = false ∧
    (w1.setCell ⟨B, k, none⟩ u).ownsRow B0 eo 1 (.slice (some ⟨B, 0, none⟩) n n) n ((vs ++ [u]) ++ List.replicate (n - (k + 1)) z) ∧ Below B0 w0 (w1.setCell ⟨B, k, none⟩ u) ∧
    (∀ (i : Nat) u' xs, (vs ++ [u])[i]? = some u' → xss[i]? = some xs → (w1.setCell ⟨B, k, none⟩ u).ownsRow (B + 1) e 1 u' xs.length (ints xs)) ∧
    (∀ (i j : Nat) u1 u' b, i < j → (vs ++ [u])[i]? = some u1 → (vs ++ [u])[j]? = some u' → u1.ownBlock = some b → u'.ownBlock ≠ some b) := by
  subst hl
  have hBw : B < wr.heap.size := (hown.lt B rfl).2
  have h1 := owns_below hown hb1 (Nat.le_refl _)
  have hcell := h1.cellAt vs.length (by omega)
  rw [List.getElem?_append_right (Nat.le_refl _), Nat.sub_self, List.getElem?_replicate, if_pos (by omega)] at hcell
  have hst := h1.stored vs.length u
  have hset : (vs ++ List.replicate (n - vs.length) z).set vs.length u = (vs ++ [u]) ++ List.replicate (n - (vs.length + 1)) z := by
    rw [List.set_append_right _ _ (Nat.le_refl _), Nat.sub_self, show n - vs.length = (n - (vs.length + 1)) + 1 by omega, List.replicate_succ]
    simp
  rw [hset] at hst
  have hk1 : ∀ {u' : Value} {m : Nat} {cs : List Value}, w1.ownsRow (B + 1) e 1 u' m cs → (w1.setCell ⟨B, vs.length, none⟩ u).ownsRow (B + 1) e 1 u' m cs := fun {u' m cs} h => by
    refine h.kept hst.2 ?_
    cases hv : u'.ownBlock with
    | none => exact .inl rfl
    | some g => exact .inr (by have := (h.lt g hv).1; intro e; cases e; omega)
  refine ⟨hcell, h1.frozenAt _, hst.1, (hbel.trans (hb1.mono (by omega))).setCell hB0 u, fun i u' xs h2 h3 => ?_, fun i j u1 u' b hij h2 h3 h4 => ?_⟩
  · rcases Nat.lt_trichotomy i vs.length with hi | hi | hi
    · rw [List.getElem?_append_left hi] at h2
      exact hk1 (owns_below (hrows i u' xs h2 h3) hb1 (Nat.le_refl _))
    · subst hi
      rw [List.getElem?_append_right (Nat.le_refl _), Nat.sub_self] at h2
      simp at h2
      subst h2
      rw [hx] at h3
      injection h3 with h3
      subst h3
      exact hk1 (owns_mono hu (by omega))
    · rw [List.getElem?_append_right (by omega)] at h2
      have : ([u] : List Value)[i - vs.length]? = none := List.getElem?_eq_none (by simp; omega)
      rw [this] at h2
      cases h2
  · have hj : j ≤ vs.length := by
      have := (List.getElem?_eq_some_iff.1 h3).1
      simp at this
      omega
    rw [List.getElem?_append_left (by omega)] at h2
    rcases Nat.lt_or_eq_of_le hj with hj | hj
    · rw [List.getElem?_append_left hj] at h3
      exact hdis i j u1 u' b hij h2 h3 h4
    · subst hj
      rw [List.getElem?_append_right (Nat.le_refl _), Nat.sub_self] at h3
      simp at h3
      subst h3
      obtain ⟨xs, hxs⟩ := hlen i u1 h2
      have a1 := ((hrows i u1 xs h2 hxs).lt b h4).2
      intro e'
      have a2 := (hu.lt b e').1
      omega

end Go.Proofs.YtmnnbgciakigfaaDoor
