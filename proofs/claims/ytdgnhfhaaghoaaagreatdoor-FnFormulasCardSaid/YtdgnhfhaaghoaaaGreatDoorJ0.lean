/- Words for memory: a slice that reads as a list of cells, and how readings and owned rows are kept. No program is in sight. Memory that a call has made: rows that may be written, and what keeps them. No program is in sight. The walks of the law package's helpers on []int: copy, compare, mark, ask for the mark. -/
import Derived.WalkKit
import Derived.WalkSpells
import Derived.WalkLawsBesides
import Derived.Lib.Hide
import Derived.Below
import Derived.Test.YtdgnhfhaaghoaaaGreatDoorProg
import Derived.Deep.QuietTactic
import Derived.BigQuiet
set_option linter.unusedSimpArgs false
set_option linter.unusedVariables false
namespace Go.Proofs.YtdgnhfhaaghoaaaGreatDoor
open Go.RowKit

/-- The slice with address A reads as the cells xs. Nil and empty slices: xs = []. -/
def Cells (w : World) (A : Option Addr) (xs : List Value) : Prop :=
  ∀ j u, xs[j]? = some u → ∃ b o, A = some ⟨b, o, none⟩ ∧ w.cell? ⟨b, o + j, none⟩ = some u

abbrev ints (xs : List Int) : List Value := xs.map (Value.int .i64)

section
variable {w w' : World} {A : Option Addr} {xs : List Value} {base : Nat} {e : TypeId} {size : Nat} {v : Value} {n c : Nat}

theorem Cells.nil (w : World) (A : Option Addr) : Cells w A [] := fun j u h => by simp at h

theorem Cells.keep (h : Cells w A xs) (hk : ∀ p : Addr, ∀ u, w.cell? p = some u → w'.cell? p = some u) : Cells w' A xs := fun j u hj => by
  obtain ⟨b, o, e, hc⟩ := h j u hj
  exact ⟨b, o, e, hk _ _ hc⟩

theorem cell_below {B : Nat} (hb : Below B w w') {p : Addr} {u : Value} (h : w.cell? p = some u) (hp : p.block < B) : w'.cell? p = some u := (hb.cell hp).trans h

theorem Cells.below (h : Cells w A xs) (hb : Below w.heap.size w w') : Cells w' A xs :=
  h.keep fun p u hc => cell_below hb hc (World.block_lt_of_cell? w p hc)

theorem Cells.alloc (h : Cells w A xs) (o : Obj) : Cells (w.alloc o) A xs := h.below ((Below.refl _ _).alloc (Nat.le_refl _) o)
theorem Cells.drew (h : Cells w A xs) : Cells w.drew A xs := h

/-- Where the first cell is: one address for all of them. -/
theorem Cells.at_ (h : Cells w A xs) {k : Nat} (hk : k < xs.length) : ∃ b o, A = some ⟨b, o, none⟩ ∧ ∀ j u, xs[j]? = some u → w.cell? ⟨b, o + j, none⟩ = some u := by
  obtain ⟨b, o, rfl, _⟩ := h k _ (List.getElem?_eq_getElem hk)
  refine ⟨b, o, rfl, fun j u hj => ?_⟩
  obtain ⟨b', o', e, hc⟩ := h j u hj
  cases e
  exact hc

theorem Cells.of_owns (h : w.ownsRow base e size (.slice A n c) n xs) : Cells w A xs := fun j u hj => by
  obtain ⟨hl, h⟩ := h
  rcases h with ⟨e, hn⟩ | ⟨g, cap, cur, e, hb, hg, h1, h2, h3, h4⟩
  · subst hn
    simp at hl
    subst hl
    simp at hj
  · cases e
    refine ⟨g, 0, rfl, ?_⟩
    rw [Nat.zero_add, cell_of_row w g j cur _ _ hg]
    have := (List.getElem?_eq_some_iff.1 hj).1
    rw [← h4, List.getElem?_take, if_pos (by omega)] at hj
    simpa using hj

theorem owns_form (h : w.ownsRow base e size v n xs) : ∃ A c, v = .slice A n c ∧ w.ownsRow base e size (.slice A n c) n xs := by
  rcases h.2 with ⟨rfl, rfl⟩ | ⟨g, cap, cur, rfl, _⟩
  · exact ⟨none, 0, rfl, h⟩
  · exact ⟨_, _, rfl, h⟩

theorem owns_below {B : Nat} (h : w.ownsRow base e size v n xs) (hb : Below B w w') (hB : w.heap.size ≤ B) : w'.ownsRow base e size v n xs := by
  refine ⟨h.1, ?_⟩
  rcases h.2 with hn | ⟨g, cap, cur, rfl, hbg, hg, rest⟩
  · exact .inl hn
  · have := (Array.getElem?_eq_some_iff.1 hg).1
    exact .inr ⟨g, cap, cur, rfl, hbg, by rw [hb.block g (by omega)]; exact hg, rest⟩

theorem owns_mono {b' : Nat} (h : w.ownsRow base e size v n xs) (hb : b' ≤ base) : w.ownsRow b' e size v n xs := by
  refine ⟨h.1, ?_⟩
  rcases h.2 with hn | ⟨g, cap, cur, rfl, hbg, rest⟩
  · exact .inl hn
  · exact .inr ⟨g, cap, cur, rfl, by omega, rest⟩
end

/-- What a loop has copied into a row of zeros after k rounds. -/
def fillV {α : Type} (xs : List α) (z : α) (k : Nat) : List α := xs.take k ++ List.replicate (xs.length - k) z

theorem fillV_zero {α : Type} (xs : List α) (z : α) : fillV xs z 0 = List.replicate xs.length z := by simp [fillV]
theorem fillV_all {α : Type} (xs : List α) (z : α) : fillV xs z xs.length = xs := by simp [fillV]
theorem fillV_all' {α : Type} {xs : List α} {z : α} {k : Nat} (h : xs.length = k) : fillV xs z k = xs := by subst h; exact fillV_all xs z
theorem fillV_set {α : Type} (xs : List α) (z x : α) (k : Nat) (h : k < xs.length) (hx : xs[k]? = some x) : (fillV xs z k).set k x = fillV xs z (k + 1) := by
  have e1 : xs.take (k + 1) = xs.take k ++ [x] := by
    rw [List.take_succ_eq_append_getElem h]
    rw [List.getElem?_eq_getElem h] at hx
    injection hx with hx
    rw [hx]
  have e2 : xs.length - k = (xs.length - (k + 1)) + 1 := by omega
  unfold fillV
  rw [e1, e2, List.replicate_succ, List.set_append_right _ _ (by rw [List.length_take]; omega)]
  have e3 : k - (xs.take k).length = 0 := by rw [List.length_take]; omega
  rw [e3]
  simp

theorem getElem?_ints (xs : List Int) (j : Nat) (h : j < xs.length) : (ints xs)[j]? = some (.int .i64 (xs.getD j 0)) := by
  simp [ints, h]

theorem Cells.int {w : World} {A : Option Addr} {xs : List Int} (h : Cells w A (ints xs)) {k : Nat} (hk : k < xs.length) :
    ∃ b o, A = some ⟨b, o, none⟩ ∧ ∀ j, j < xs.length → w.cell? ⟨b, o + j, none⟩ = some (.int .i64 (xs.getD j 0)) := by
  obtain ⟨b, o, e, hc⟩ := h.at_ (k := k) (by simpa [ints] using hk)
  exact ⟨b, o, e, fun j hj => hc j _ (getElem?_ints xs j hj)⟩

theorem str_ne {x y : ByteArray} (h : x ≠ y) : (x.toList == y.toList) = false := by
  rw [beq_eq_false_iff_ne]
  intro e
  rw [ByteArray.toList_eq, ByteArray.toList_eq] at e
  exact h (ByteArray.ext (Array.toList_inj.1 e))

theorem str_eq (x : ByteArray) : (x.toList == x.toList) = true := by rw [beq_self_eq_true]

end Go.Proofs.YtdgnhfhaaghoaaaGreatDoor

set_option linter.unusedVariables false
namespace Go.Proofs.YtdgnhfhaaghoaaaGreatDoor
open Go.RowKit

/-- The slice v of n elements reads as the cells cs, which may be written and lie in blocks of S. -/
def Own (w : World) (S : Nat → Prop) (v : Value) (n : Nat) (cs : List Value) : Prop :=
  ∃ A c, v = .slice A n c ∧ (cs = [] ∨ ∃ g o, A = some ⟨g, o, none⟩ ∧ S g ∧ ∀ j u, cs[j]? = some u → w.cell? ⟨g, o + j, none⟩ = some u ∧ w.frozen? ⟨g, o + j, none⟩ = false)

/-- Outside S nothing that was there has turned. -/
structure Kept (S : Nat → Prop) (w w' : World) : Prop where
  os : w'.os = w.os
  tape : w'.tape = w.tape
  output : w'.output = w.output
  size : w.heap.size ≤ w'.heap.size
  block : ∀ k, k < w.heap.size → ¬ S k → w'.heap[k]? = w.heap[k]?

section
variable {w w' w'' : World} {S T : Nat → Prop} {v : Value} {n : Nat} {cs : List Value}

theorem Kept.refl (S : Nat → Prop) (w : World) : Kept S w w := ⟨rfl, rfl, rfl, Nat.le_refl _, fun _ _ _ => rfl⟩
theorem Kept.trans (h : Kept S w w') (k : Kept S w' w'') : Kept S w w'' :=
  ⟨k.os.trans h.os, k.tape.trans h.tape, k.output.trans h.output, Nat.le_trans h.size k.size, fun b hb hs => (k.block b (Nat.lt_of_lt_of_le hb h.size) hs).trans (h.block b hb hs)⟩
theorem Kept.mono (h : Kept S w w') (hs : ∀ b, S b → T b) : Kept T w w' := ⟨h.os, h.tape, h.output, h.size, fun b hb ht => h.block b hb (fun k => ht (hs b k))⟩
theorem Kept.of_below (h : Below w.heap.size w w') (S : Nat → Prop) : Kept S w w' := ⟨h.os, h.tape, h.output, h.size, fun b hb _ => h.block b hb⟩
theorem Kept.below {B : Nat} (h : Kept S w w') (hs : ∀ b, S b → B ≤ b) (hB : B ≤ w.heap.size) : Below B w w' := ⟨h.os, h.tape, h.output, h.size, fun b hb => h.block b (by omega) (fun k => by have := hs b k; omega)⟩
theorem Kept.drew (h : Kept S w w') : Kept S w w'.drew := ⟨h.os, h.tape, h.output, h.size, h.block⟩
theorem Kept.setCell (h : Kept S w w') {p : Addr} (hp : S p.block) (u : Value) : Kept S w (w'.setCell p u) :=
  ⟨h.os, h.tape, h.output, by simpa [World.setCell] using h.size, fun b hb hs => (Below.heap_setCell w' p u b (fun e => hs (by rw [e]; exact hp))).trans (h.block b hb hs)⟩

theorem lt_of_cell {p : Addr} {u : Value} (h : w.cell? p = some u) : p.block < w.heap.size := World.block_lt_of_cell? w p h

/-- A row outside of what has turned. -/
theorem Own.kept (h : Own w S v n cs) (hk : Kept T w w') (hd : ∀ b, S b → ¬ T b) : Own w' S v n cs := by
  obtain ⟨A, c, e, h⟩ := h
  refine ⟨A, c, e, ?_⟩
  rcases h with h | ⟨g, o, rfl, hg, hc⟩
  · exact .inl h
  · refine .inr ⟨g, o, rfl, hg, fun j u hj => ?_⟩
    obtain ⟨h1, h2⟩ := hc j u hj
    have hb := hk.block g (lt_of_cell h1) (hd g hg)
    exact ⟨(World.cell?_of_block (a := ⟨g, o + j, none⟩) hb).trans h1, (World.frozen?_of_block (a := ⟨g, o + j, none⟩) hb).trans h2⟩

theorem Own.below {B : Nat} (h : Own w S v n cs) (hb : Below B w w') (hB : w.heap.size ≤ B) : Own w' S v n cs :=
  h.kept (T := fun _ => False) ⟨hb.os, hb.tape, hb.output, hb.size, fun b hb' _ => hb.block b (by omega)⟩ (fun _ _ k => k)

theorem Own.mono (h : Own w S v n cs) (hs : ∀ b, S b → T b) : Own w T v n cs := by
  obtain ⟨A, c, e, h⟩ := h
  refine ⟨A, c, e, ?_⟩
  rcases h with h | ⟨g, o, rfl, hg, hc⟩
  · exact .inl h
  · exact .inr ⟨g, o, rfl, hs g hg, hc⟩

theorem Own.cells (h : Own w S v n cs) : ∃ A c, v = .slice A n c ∧ Cells w A cs := by
  obtain ⟨A, c, e, h⟩ := h
  refine ⟨A, c, e, ?_⟩
  rcases h with rfl | ⟨g, o, rfl, hg, hc⟩
  · exact Cells.nil _ _
  · exact fun j u hj => ⟨g, o, rfl, (hc j u hj).1⟩

theorem Own.of_owns {base : Nat} {e : TypeId} {size : Nat} (h : w.ownsRow base e size v n cs) : Own w (fun b => v.ownBlock = some b) v n cs := by
  rcases h.2 with ⟨rfl, rfl⟩ | ⟨g, cap, cur, rfl, hb, hg, h1, h2, h3, h4⟩
  · exact ⟨none, 0, rfl, .inl (List.eq_nil_of_length_eq_zero (by simpa using h.1))⟩
  · refine ⟨_, _, rfl, .inr ⟨g, 0, rfl, rfl, fun j u hj => ?_⟩⟩
    have hl := (List.getElem?_eq_some_iff.1 hj).1
    rw [Nat.zero_add]
    refine ⟨?_, frozen_of_row w g j cur e hg⟩
    rw [cell_of_row w g j cur _ _ hg]
    rw [← h4, List.getElem?_take, if_pos (by have := h.1; omega)] at hj
    simpa using hj

/-- One cell of a row is written. -/
theorem Own.set (h : Own w S v n cs) (k : Nat) (u : Value) {g o c : Nat} (hv : v = .slice (some ⟨g, o, none⟩) n c) (hk : k < cs.length) : Own (w.setCell ⟨g, o + k, none⟩ u) S v n (cs.set k u) := by
  obtain ⟨A, c', e, h⟩ := h
  subst hv
  cases e
  refine ⟨_, _, rfl, ?_⟩
  rcases h with rfl | ⟨g', o', e, hg, hc⟩
  · simp at hk
  · cases e
    refine .inr ⟨g, o, rfl, hg, fun j u' hj => ?_⟩
    rw [World.frozen?_setCell]
    have hjl : j < cs.length := by have := (List.getElem?_eq_some_iff.1 hj).1; simpa using this
    obtain ⟨h1, h2⟩ := hc j _ (List.getElem?_eq_getElem hjl)
    refine ⟨?_, h2⟩
    by_cases hjk : k = j
    · subst hjk
      simp [hk] at hj
      subst hj
      exact World.cell?_setCell_same w _ _ h1
    · rw [World.cell?_setCell_other _ _ _ _ (by intro e; simp only [Addr.mk.injEq, true_and, and_true] at e; omega)]
      rw [List.getElem?_set_ne hjk] at hj
      rw [List.getElem?_eq_getElem hjl] at hj
      injection hj with hj
      rw [← hj]
      exact h1
end

theorem Own.at_ {w : World} {S : Nat → Prop} {v : Value} {n : Nat} {cs : List Value} (h : Own w S v n cs) {k : Nat} (hk : k < cs.length) :
    ∃ g o c, v = .slice (some ⟨g, o, none⟩) n c ∧ S g ∧ ∀ j u, cs[j]? = some u → w.cell? ⟨g, o + j, none⟩ = some u ∧ w.frozen? ⟨g, o + j, none⟩ = false := by
  obtain ⟨A, c, e, h⟩ := h
  rcases h with rfl | ⟨g, o, rfl, hg, hc⟩
  · simp at hk
  · exact ⟨g, o, c, e, hg, hc⟩

theorem Own.new (w : World) (cs : List Value) (t : TypeId) (n c : Nat) :
    Own (w.alloc (.cells cs.toArray t)) (fun b => w.heap.size ≤ b ∧ b < (w.alloc (.cells cs.toArray t)).heap.size) (.slice (some ⟨w.heap.size, 0, none⟩) n c) n cs := by
  refine ⟨_, _, rfl, .inr ⟨w.heap.size, 0, rfl, ⟨Nat.le_refl _, by simp⟩, fun j u hj => ?_⟩⟩
  have hg := heap_alloc_new w (.cells cs.toArray t)
  rw [Nat.zero_add]
  exact ⟨by rw [cell_of_row _ _ _ _ _ _ hg]; simpa using hj, frozen_of_row _ _ _ _ _ hg⟩

/-- Three blocks that a call laid at its head, behind a call of another function. -/
theorem three_boxes {w w1 : World} {o1 o2 o3 : Obj} (h : Below (((w.alloc o1).alloc o2).alloc o3).heap.size (((w.alloc o1).alloc o2).alloc o3) w1) :
    w1.heap[w.heap.size]? = some o1 ∧ w1.heap[w.heap.size + 1]? = some o2 ∧ w1.heap[w.heap.size + 1 + 1]? = some o3 ∧ w.heap.size + 1 + 1 < w1.heap.size := by
  have hs := h.size
  simp only [World.size_alloc] at hs
  refine ⟨?_, ?_, ?_, by omega⟩
  · rw [h.block _ (by simp; omega), heap_alloc_old _ _ (by simp; omega), heap_alloc_old _ _ (by simp), heap_alloc_new]
  · rw [h.block _ (by simp), heap_alloc_old _ _ (by simp)]
    have := heap_alloc_new (w.alloc o1) o2
    rwa [World.size_alloc] at this
  · rw [h.block _ (by simp)]
    have := heap_alloc_new ((w.alloc o1).alloc o2) o3
    rwa [World.size_alloc, World.size_alloc] at this

theorem two_boxes {w w1 : World} {o1 o2 : Obj} (h : Below ((w.alloc o1).alloc o2).heap.size ((w.alloc o1).alloc o2) w1) :
    w1.heap[w.heap.size]? = some o1 ∧ w1.heap[w.heap.size + 1]? = some o2 ∧ w.heap.size + 1 < w1.heap.size := by
  have hs := h.size
  simp only [World.size_alloc] at hs
  refine ⟨?_, ?_, by omega⟩
  · rw [h.block _ (by simp; omega), heap_alloc_old _ _ (by simp), heap_alloc_new]
  · rw [h.block _ (by simp)]
    have := heap_alloc_new (w.alloc o1) o2
    rwa [World.size_alloc] at this

theorem one_box {w w1 : World} {o1 : Obj} (h : Below (w.alloc o1).heap.size (w.alloc o1) w1) : w1.heap[w.heap.size]? = some o1 ∧ w.heap.size < w1.heap.size := by
  have hs := h.size
  simp only [World.size_alloc] at hs
  refine ⟨?_, by omega⟩
  rw [h.block _ (by simp), heap_alloc_new]

end Go.Proofs.YtdgnhfhaaghoaaaGreatDoor

set_option linter.unusedVariables false
namespace Go.Proofs.YtdgnhfhaaghoaaaGreatDoor
open Go.RowKit

/-- Two lists of numbers, compared. A plain definition: the walk shall not look into it. -/
def sameI (xs ys : List Int) : Bool := decide (xs = ys)

theorem sameI_len {xs ys : List Int} (h : xs.length ≠ ys.length) : sameI xs ys = false := by
  unfold sameI; rw [decide_eq_false_iff_not]; intro e; exact h (by rw [e])
theorem sameI_at {xs ys : List Int} {k : Nat} (h : xs.getD k 0 ≠ ys.getD k 0) : sameI xs ys = false := by
  unfold sameI; rw [decide_eq_false_iff_not]; intro e; exact h (by rw [e])
theorem sameI_all {xs ys : List Int} (hl : xs.length = ys.length) (h : ∀ j, j < xs.length → xs.getD j 0 = ys.getD j 0) : sameI xs ys = true := by
  unfold sameI
  rw [decide_eq_true_iff]
  apply List.ext_getElem hl
  intro i h1 h2
  have := h i h1
  simpa [List.getD, h1, h2] using this

theorem below_drewN' {B : Nat} {a w : World} (h : Below B a w) (n : Nat) : Below B a (w.drewN n) := ⟨h.os, h.tape, h.output, h.size, h.block⟩

end Go.Proofs.YtdgnhfhaaghoaaaGreatDoor
