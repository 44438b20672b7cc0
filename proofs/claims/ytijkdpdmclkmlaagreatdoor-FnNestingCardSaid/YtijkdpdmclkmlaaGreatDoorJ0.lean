/- Words for memory: a slice that reads as a list of cells, and how readings and owned rows are kept. No program is in sight. Memory that a call has made: rows that may be written, and what keeps them. No program is in sight. Boxes that a call lays at its head, and the cells of a bigraph's box. No program is in sight. The walks of the law package's helpers on []int: copy, compare, mark, ask for the mark. Slices whose elements take several cells: how they are read. No program is in sight. -/
import Derived.WalkKit
import Derived.WalkSpells
import Derived.WalkLawsBesides
import Derived.Lib.Hide
import Derived.Below
import Derived.Test.YtijkdpdmclkmlaaGreatDoorProg
import Derived.Deep.QuietTactic
import Derived.BigQuiet
set_option linter.unusedSimpArgs false
set_option linter.unusedVariables false
set_option maxRecDepth 100000
set_option maxHeartbeats 16000000
namespace Go.Proofs.YtijkdpdmclkmlaaGreatDoor
open Go.RowKit
/-- The slice with address A reads as the cells xs. Nil and empty slices: xs = []. -/
def Cells (w : World) (A : Option Addr) (xs : List Value) : Prop :=
  ∀ j u, xs[j]? = some u → ∃ b o, A = some ⟨b, o, none⟩ ∧ w.cell? ⟨b, o + j, none⟩ = some u

abbrev ints (xs : List Int) : List Value := xs.map (Value.int .i64)

section
variable {w w' : World} {A : Option Addr} {xs : List Value} {base : Nat} {e : TypeId} {size : Nat} {v : Value} {n c : Nat}

theorem Cells.nil (w : World) (A : Option Addr) : Cells w A [] := fun j u h => by simp at h

theorem Cells.keep (h : Cells w A xs) (hk : ∀ p : Addr, ∀ u, w.cell? p = some u → w'.cell? p = some u) : Cells w' A xs := fun j u hj => by
  obtain ⟨b, o, e, hc⟩ := h j u hj
  exact ⟨b, o, e, hk _ _ hc⟩

theorem cell_below {B : Nat} (hb : Below B w w') {p : Addr} {u : Value} (h : w.cell? p = some u) (hp : p.block < B) : w'.cell? p = some u := (hb.cell hp).trans h

theorem Cells.below (h : Cells w A xs) (hb : Below w.heap.size w w') : Cells w' A xs :=
  h.keep fun p u hc => cell_below hb hc (World.block_lt_of_cell? w p hc)

theorem Cells.alloc (h : Cells w A xs) (o : Obj) : Cells (w.alloc o) A xs := h.below ((Below.refl _ _).alloc (Nat.le_refl _) o)
theorem Cells.drew (h : Cells w A xs) : Cells w.drew A xs := h

/-- Where the first cell is: one address for all of them. -/
theorem Cells.at_ (h : Cells w A xs) {k : Nat} (hk : k < xs.length) : ∃ b o, A = some ⟨b, o, none⟩ ∧ ∀ j u, xs[j]? = some u → w.cell? ⟨b, o + j, none⟩ = some u := by
  obtain ⟨b, o, rfl, _⟩ := h k _ (List.getElem?_eq_getElem hk)
  refine ⟨b, o, rfl, fun j u hj => ?_⟩
  obtain ⟨b', o', e, hc⟩ := h j u hj
  cases e
  exact hc

theorem Cells.of_owns (h : w.ownsRow base e size (.slice A n c) n xs) : Cells w A xs := fun j u hj => by
  obtain ⟨hl, h⟩ := h
  rcases h with ⟨e, hn⟩ | ⟨g, cap, cur, e, hb, hg, h1, h2, h3, h4⟩
  · subst hn
    simp at hl
    subst hl
    simp at hj
  cases e
  refine ⟨g, 0, rfl, ?_⟩
  rw [Nat.zero_add, cell_of_row w g j cur _ _ hg]
  have := (List.getElem?_eq_some_iff.1 hj).1
  rw [← h4, List.getElem?_take, if_pos (by omega)] at hj
  simpa using hj

theorem owns_form (h : w.ownsRow base e size v n xs) : ∃ A c, v = .slice A n c ∧ w.ownsRow base e size (.slice A n c) n xs := by
  rcases h.2 with ⟨rfl, rfl⟩ | ⟨g, cap, cur, rfl, _⟩
  · exact ⟨none, 0, rfl, h⟩
  exact ⟨_, _, rfl, h⟩

theorem owns_below {B : Nat} (h : w.ownsRow base e size v n xs) (hb : Below B w w') (hB : w.heap.size ≤ B) : w'.ownsRow base e size v n xs := by
  refine ⟨h.1, ?_⟩
  rcases h.2 with hn | ⟨g, cap, cur, rfl, hbg, hg, rest⟩
  · exact .inl hn
  have := (Array.getElem?_eq_some_iff.1 hg).1
  exact .inr ⟨g, cap, cur, rfl, hbg, by rw [hb.block g (by omega)]; exact hg, rest⟩

theorem owns_mono {b' : Nat} (h : w.ownsRow base e size v n xs) (hb : b' ≤ base) : w.ownsRow b' e size v n xs := by
  refine ⟨h.1, ?_⟩
  rcases h.2 with hn | ⟨g, cap, cur, rfl, hbg, rest⟩
  · exact .inl hn
  exact .inr ⟨g, cap, cur, rfl, by omega, rest⟩
end

theorem getElem?_ints (xs : List Int) (j : Nat) (h : j < xs.length) : (ints xs)[j]? = some (.int .i64 (xs.getD j 0)) := by
  simp [ints, h]

theorem Cells.int {w : World} {A : Option Addr} {xs : List Int} (h : Cells w A (ints xs)) {k : Nat} (hk : k < xs.length) :
    ∃ b o, A = some ⟨b, o, none⟩ ∧ ∀ j, j < xs.length → w.cell? ⟨b, o + j, none⟩ = some (.int .i64 (xs.getD j 0)) := by
  obtain ⟨b, o, e, hc⟩ := h.at_ (k := k) (by simpa [ints] using hk)
  exact ⟨b, o, e, fun j hj => hc j _ (getElem?_ints xs j hj)⟩

theorem str_ne {x y : ByteArray} (h : x ≠ y) : (x.toList == y.toList) = false := by
  rw [beq_eq_false_iff_ne]
  intro e
  rw [ByteArray.toList_eq, ByteArray.toList_eq] at e
  exact h (ByteArray.ext (Array.toList_inj.1 e))

theorem str_eq (x : ByteArray) : (x.toList == x.toList) = true := by rw [beq_self_eq_true]

/-- Outside S nothing that was there has turned. -/
structure Kept (S : Nat → Prop) (w w' : World) : Prop where
  os : w'.os = w.os
  tape : w'.tape = w.tape
  output : w'.output = w.output
  size : w.heap.size ≤ w'.heap.size
  block : ∀ k, k < w.heap.size → ¬ S k → w'.heap[k]? = w.heap[k]?

section
variable {w w' w'' : World} {S T : Nat → Prop} {v : Value} {n : Nat} {cs : List Value}

theorem Kept.refl (S : Nat → Prop) (w : World) : Kept S w w := ⟨rfl, rfl, rfl, Nat.le_refl _, fun _ _ _ => rfl⟩
theorem Kept.trans (h : Kept S w w') (k : Kept S w' w'') : Kept S w w'' :=
  ⟨k.os.trans h.os, k.tape.trans h.tape, k.output.trans h.output, Nat.le_trans h.size k.size, fun b hb hs => (k.block b (Nat.lt_of_lt_of_le hb h.size) hs).trans (h.block b hb hs)⟩
theorem Kept.mono (h : Kept S w w') (hs : ∀ b, S b → T b) : Kept T w w' := ⟨h.os, h.tape, h.output, h.size, fun b hb ht => h.block b hb (fun k => ht (hs b k))⟩
theorem Kept.of_below (h : Below w.heap.size w w') (S : Nat → Prop) : Kept S w w' := ⟨h.os, h.tape, h.output, h.size, fun b hb _ => h.block b hb⟩
theorem Kept.below {B : Nat} (h : Kept S w w') (hs : ∀ b, S b → B ≤ b) (hB : B ≤ w.heap.size) : Below B w w' := ⟨h.os, h.tape, h.output, h.size, fun b hb => h.block b (by omega) (fun k => by have := hs b k; omega)⟩
theorem Kept.drew (h : Kept S w w') : Kept S w w'.drew := ⟨h.os, h.tape, h.output, h.size, h.block⟩
theorem Kept.setCell (h : Kept S w w') {p : Addr} (hp : S p.block) (u : Value) : Kept S w (w'.setCell p u) :=
  ⟨h.os, h.tape, h.output, by simpa [World.setCell] using h.size, fun b hb hs => (Below.heap_setCell w' p u b (fun e => hs (by rw [e]; exact hp))).trans (h.block b hb hs)⟩

theorem lt_of_cell {p : Addr} {u : Value} (h : w.cell? p = some u) : p.block < w.heap.size := World.block_lt_of_cell? w p h

end

section
variable {W : World} {P : Nat} {a0 a1 a2 a3 a4 a5 : Value} {t : TypeId}
/-- The six cells of a bigraph's box. -/
theorem row6 (h : W.heap[P]? = some (.cells #[a0, a1, a2, a3, a4, a5] t)) : W.cell? ⟨P, 0, none⟩ = some a0 ∧ W.cell? ⟨P, 1, none⟩ = some a1 ∧ W.cell? ⟨P, 2, none⟩ = some a2 ∧ W.cell? ⟨P, 3, none⟩ = some a3 ∧ W.cell? ⟨P, 4, none⟩ = some a4 ∧ W.cell? ⟨P, 5, none⟩ = some a5 :=
  ⟨cell_of_row _ _ 0 _ _ _ h, cell_of_row _ _ 1 _ _ _ h, cell_of_row _ _ 2 _ _ _ h, cell_of_row _ _ 3 _ _ _ h, cell_of_row _ _ 4 _ _ _ h, cell_of_row _ _ 5 _ _ _ h⟩
theorem row6f (h : W.heap[P]? = some (.cells #[a0, a1, a2, a3, a4, a5] t)) : W.cell? ⟨P, 0, none⟩ = some a0 ∧ W.cell? ⟨P, 1, none⟩ = some a1 ∧ W.cell? ⟨P, 2, none⟩ = some a2 ∧ W.cell? ⟨P, 3, none⟩ = some a3 ∧ W.cell? ⟨P, 4, none⟩ = some a4 ∧ W.cell? ⟨P, 5, none⟩ = some a5 ∧ W.frozen? ⟨P, 0, none⟩ = false ∧ W.frozen? ⟨P, 1, none⟩ = false ∧ W.frozen? ⟨P, 2, none⟩ = false ∧ W.frozen? ⟨P, 3, none⟩ = false ∧ W.frozen? ⟨P, 4, none⟩ = false ∧ W.frozen? ⟨P, 5, none⟩ = false :=
  ⟨cell_of_row _ _ 0 _ _ _ h, cell_of_row _ _ 1 _ _ _ h, cell_of_row _ _ 2 _ _ _ h, cell_of_row _ _ 3 _ _ _ h, cell_of_row _ _ 4 _ _ _ h, cell_of_row _ _ 5 _ _ _ h, frozen_of_row _ _ 0 _ _ h, frozen_of_row _ _ 1 _ _ h, frozen_of_row _ _ 2 _ _ h, frozen_of_row _ _ 3 _ _ h, frozen_of_row _ _ 4 _ _ h, frozen_of_row _ _ 5 _ _ h⟩
end

theorem alloc2 (w : World) (a b : Obj) : Below w.heap.size w ((w.alloc a).alloc b) ∧ ((w.alloc a).alloc b).heap.size = w.heap.size + 1 + 1 ∧ ((w.alloc a).alloc b).heap[w.heap.size]? = some a ∧ ((w.alloc a).alloc b).heap[w.heap.size + 1]? = some b := by
  have s1 : (w.alloc a).heap.size = w.heap.size + 1 := World.size_alloc _ _
  refine ⟨((Below.refl _ _).alloc (Nat.le_refl _) _).alloc (by omega) _, by rw [World.size_alloc, s1], ?_, ?_⟩
  · exact (heap_alloc_old _ _ (by omega)).trans (heap_alloc_new _ _)
  rw [← s1]; exact heap_alloc_new _ _
theorem alloc3 (w : World) (a b c : Obj) : Below w.heap.size w (((w.alloc a).alloc b).alloc c) ∧ (((w.alloc a).alloc b).alloc c).heap.size = w.heap.size + 1 + 1 + 1 ∧ (((w.alloc a).alloc b).alloc c).heap[w.heap.size]? = some a ∧ (((w.alloc a).alloc b).alloc c).heap[w.heap.size + 1]? = some b ∧ (((w.alloc a).alloc b).alloc c).heap[w.heap.size + 1 + 1]? = some c := by
  have s1 : (w.alloc a).heap.size = w.heap.size + 1 := World.size_alloc _ _
  have s2 : ((w.alloc a).alloc b).heap.size = w.heap.size + 1 + 1 := by rw [World.size_alloc, s1]
  refine ⟨(((Below.refl _ _).alloc (Nat.le_refl _) _).alloc (by omega) _).alloc (by omega) _, by rw [World.size_alloc, s2], ?_, ?_, ?_⟩
  · exact (heap_alloc_old _ _ (by omega)).trans ((heap_alloc_old _ _ (by omega)).trans (heap_alloc_new _ _))
  · exact (heap_alloc_old _ _ (by omega)).trans (by rw [← s1]; exact heap_alloc_new _ _)
  rw [← s2]; exact heap_alloc_new _ _
theorem alloc4 (w : World) (a b c d : Obj) : Below w.heap.size w ((((w.alloc a).alloc b).alloc c).alloc d) ∧ ((((w.alloc a).alloc b).alloc c).alloc d).heap.size = w.heap.size + 1 + 1 + 1 + 1 ∧ ((((w.alloc a).alloc b).alloc c).alloc d).heap[w.heap.size]? = some a ∧ ((((w.alloc a).alloc b).alloc c).alloc d).heap[w.heap.size + 1]? = some b ∧ ((((w.alloc a).alloc b).alloc c).alloc d).heap[w.heap.size + 1 + 1]? = some c ∧ ((((w.alloc a).alloc b).alloc c).alloc d).heap[w.heap.size + 1 + 1 + 1]? = some d := by
  have s1 : (w.alloc a).heap.size = w.heap.size + 1 := World.size_alloc _ _
  have s2 : ((w.alloc a).alloc b).heap.size = w.heap.size + 1 + 1 := by rw [World.size_alloc, s1]
  have s3 : (((w.alloc a).alloc b).alloc c).heap.size = w.heap.size + 1 + 1 + 1 := by rw [World.size_alloc, s2]
  refine ⟨((((Below.refl _ _).alloc (Nat.le_refl _) _).alloc (by omega) _).alloc (by omega) _).alloc (by omega) _, by rw [World.size_alloc, s3], ?_, ?_, ?_, ?_⟩
  · exact (heap_alloc_old _ _ (by omega)).trans ((heap_alloc_old _ _ (by omega)).trans ((heap_alloc_old _ _ (by omega)).trans (heap_alloc_new _ _)))
  · exact (heap_alloc_old _ _ (by omega)).trans ((heap_alloc_old _ _ (by omega)).trans (by rw [← s1]; exact heap_alloc_new _ _))
  · exact (heap_alloc_old _ _ (by omega)).trans (by rw [← s2]; exact heap_alloc_new _ _)
  rw [← s3]; exact heap_alloc_new _ _
/-- Blocks laid one behind the other, the world named. -/
theorem laid1 (w : World) (a : Obj) : ∃ w0, w0 = w.alloc a ∧ Below w.heap.size w w0 ∧ w0.heap.size = w.heap.size + 1 ∧ w0.heap[w.heap.size]? = some a := ⟨_, rfl, (Below.refl _ _).alloc (Nat.le_refl _) _, World.size_alloc _ _, heap_alloc_new _ _⟩
theorem laid2 (w : World) (a b : Obj) : ∃ w0, w0 = (w.alloc a).alloc b ∧ Below w.heap.size w w0 ∧ w0.heap.size = w.heap.size + 1 + 1 ∧ w0.heap[w.heap.size]? = some a ∧ w0.heap[w.heap.size + 1]? = some b := ⟨_, rfl, alloc2 w a b⟩
theorem laid3 (w : World) (a b c : Obj) : ∃ w0, w0 = ((w.alloc a).alloc b).alloc c ∧ Below w.heap.size w w0 ∧ w0.heap.size = w.heap.size + 1 + 1 + 1 ∧ w0.heap[w.heap.size]? = some a ∧ w0.heap[w.heap.size + 1]? = some b ∧ w0.heap[w.heap.size + 1 + 1]? = some c := ⟨_, rfl, alloc3 w a b c⟩
theorem laid4 (w : World) (a b c d : Obj) : ∃ w0, w0 = (((w.alloc a).alloc b).alloc c).alloc d ∧ Below w.heap.size w w0 ∧ w0.heap.size = w.heap.size + 1 + 1 + 1 + 1 ∧ w0.heap[w.heap.size]? = some a ∧ w0.heap[w.heap.size + 1]? = some b ∧ w0.heap[w.heap.size + 1 + 1]? = some c ∧ w0.heap[w.heap.size + 1 + 1 + 1]? = some d := ⟨_, rfl, alloc4 w a b c d⟩
/-- A block goes on to stand. -/
theorem keepB {w0 : World} {k : Nat} {o : Obj} (h : w0.heap[k]? = some o) : ∀ W, Below w0.heap.size w0 W → W.heap[k]? = some o := fun W hW => (hW.block _ (Array.getElem?_eq_some_iff.1 h).1).trans h

/-- Two lists of numbers, compared. A plain definition: the walk shall not look into it. -/
def sameI (xs ys : List Int) : Bool := decide (xs = ys)

theorem sameI_len {xs ys : List Int} (h : xs.length ≠ ys.length) : sameI xs ys = false := by
  unfold sameI; rw [decide_eq_false_iff_not]; intro e; exact h (by rw [e])
theorem sameI_at {xs ys : List Int} {k : Nat} (h : xs.getD k 0 ≠ ys.getD k 0) : sameI xs ys = false := by
  unfold sameI; rw [decide_eq_false_iff_not]; intro e; exact h (by rw [e])
theorem sameI_all {xs ys : List Int} (hl : xs.length = ys.length) (h : ∀ j, j < xs.length → xs.getD j 0 = ys.getD j 0) : sameI xs ys = true := by
  unfold sameI
  rw [decide_eq_true_iff]
  apply List.ext_getElem hl
  intro i h1 h2
  have := h i h1
  simpa [List.getD, h1, h2] using this

theorem below_drewN' {B : Nat} {a w : World} (h : Below B a w) (n : Nat) : Below B a (w.drewN n) := ⟨h.os, h.tape, h.output, h.size, h.block⟩

theorem flat_at {α : Type} {sz : Nat} : ∀ {css : List (List α)}, (∀ cs ∈ css, cs.length = sz) → ∀ {k : Nat} {cs : List α}, css[k]? = some cs → ∀ {r : Nat} {u : α}, cs[r]? = some u → css.flatten[k * sz + r]? = some u
  | [], _, _, _, h, _, _, _ => by simp at h
  | c0 :: css, hl, 0, cs, h, r, u, hr => by
    simp at h
    subst h
    rw [List.flatten_cons, Nat.zero_mul, Nat.zero_add, List.getElem?_append_left (List.getElem?_eq_some_iff.1 hr).1]
    exact hr
  | c0 :: css, hl, k + 1, cs, h, r, u, hr => by
    have h0 : c0.length = sz := hl c0 (by simp)
    have := flat_at (css := css) (fun cs h => hl cs (List.mem_cons_of_mem _ h)) (by simpa using h) hr
    rw [List.flatten_cons, List.getElem?_append_right (by rw [h0, Nat.succ_mul]; omega), h0]
    rw [show (k + 1) * sz + r - sz = k * sz + r by rw [Nat.succ_mul]; omega]
    exact this

/-- A slice of elements of sz cells each, read as l by R. -/
def RSl {α : Type} (R : World → List Value → α → Prop) (sz : Nat) (w : World) (v : Value) (l : List α) : Prop :=
  ∃ (A : Option Addr) (c : Nat) (css : List (List Value)), v = .slice A l.length c ∧ l.length ≤ maxLen ∧ css.length = l.length ∧ (∀ cs ∈ css, cs.length = sz) ∧ Cells w A css.flatten ∧
    ∀ (i : Nat) cs x, css[i]? = some cs → l[i]? = some x → R w cs x

/-- R reads memory alone, and what was there stays. -/
def KeepR {α : Type} (R : World → List Value → α → Prop) : Prop := ∀ (w w' : World) cs x, R w cs x → Below w.heap.size w w' → R w' cs x

section
variable {α : Type} {R : World → List Value → α → Prop} {sz : Nat} {w w' : World} {v : Value} {l : List α}

theorem RSl.below (h : RSl R sz w v l) (hR : KeepR R) (hb : Below w.heap.size w w') : RSl R sz w' v l := by
  obtain ⟨A, c, css, e, hm, hl, hsz, hc, hr⟩ := h
  exact ⟨A, c, css, e, hm, hl, hsz, hc.below hb, fun i cs x h1 h2 => hR _ _ _ _ (hr i cs x h1 h2) hb⟩

/-- The address of the slice, and of each element its cells. -/
theorem RSl.at_ (h : RSl R sz w v l) (h0 : 0 < sz) {k : Nat} {x : α} (hk : l[k]? = some x) :
    ∃ b o c cs, v = .slice (some ⟨b, o, none⟩) l.length c ∧ cs.length = sz ∧ R w cs x ∧ ∀ r u, cs[r]? = some u → w.cell? ⟨b, o + (k * sz + r), none⟩ = some u := by
  obtain ⟨A, c, css, e, hm, hl, hsz, hc, hr⟩ := h
  have hkl := (List.getElem?_eq_some_iff.1 hk).1
  have hcs : css[k]? = some (css[k]'(by omega)) := List.getElem?_eq_getElem (by omega)
  have hlen := hsz _ (List.getElem_mem (l := css) (n := k) (by omega))
  have h1 := flat_at hsz hcs (List.getElem?_eq_getElem (l := css[k]'(by omega)) (i := 0) (by omega))
  obtain ⟨b, o, rfl, hcc⟩ := hc.at_ (List.getElem?_eq_some_iff.1 h1).1
  exact ⟨b, o, c, _, e, hlen, hr k _ x hcs hk, fun r u hu => hcc _ _ (flat_at hsz hcs hu)⟩

theorem RSl.form (h : RSl R sz w v l) : ∃ A c, v = .slice A l.length c ∧ l.length ≤ maxLen := by
  obtain ⟨A, c, css, e, hm, _⟩ := h
  exact ⟨A, c, e, hm⟩
end

/-- The cells cs written into a list from i on. -/
def setL {α : Type} : List α → Nat → List α → List α
  | l, _, [] => l
  | l, i, c :: cs => setL (l.set i c) (i + 1) cs

theorem owns_setCells {base : Nat} {e : TypeId} {size n cap g : Nat} : ∀ (cs : List Value) (w : World) (i : Nat) (xs : List Value), w.ownsRow base e size (.slice (some ⟨g, 0, none⟩) n cap) n xs →
    (w.setCells g i cs).ownsRow base e size (.slice (some ⟨g, 0, none⟩) n cap) n (setL xs i cs)
  | [], w, i, xs, h => h
  | c :: cs, w, i, xs, h => owns_setCells cs _ (i + 1) _ (h.stored i c).1

theorem kept_setCells {S : Nat → Prop} {g : Nat} (hg : S g) : ∀ (cs : List Value) (a w : World) (i : Nat), Kept S a w → Kept S a (w.setCells g i cs)
  | [], _, _, _, h => h
  | c :: cs, a, w, i, h => kept_setCells hg cs a _ (i + 1) (h.setCell (p := ⟨g, i, none⟩) hg c)

section
variable {α : Type} {O : World → (Nat → Prop) → List Value → α → Prop} {R : World → List Value → α → Prop} {sz : Nat} {w w' : World} {S T : Nat → Prop} {v : Value} {l : List α}
end

end Go.Proofs.YtijkdpdmclkmlaaGreatDoor
