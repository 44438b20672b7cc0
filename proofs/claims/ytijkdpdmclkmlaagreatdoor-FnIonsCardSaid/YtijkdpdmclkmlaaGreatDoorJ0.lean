/- Words for memory: a slice that reads as a list of cells, and how readings and owned rows are kept. No program is in sight. Memory that a call has made: rows that may be written, and what keeps them. No program is in sight. Boxes that a call lays at its head, and the cells of a bigraph's box. No program is in sight. A region that draws its order, by what holds while it is under way: each operation is shown once, whatever came before it. No program is in sight. -/
import Derived.WalkKit
import Derived.WalkSpells
import Derived.WalkLawsBesides
import Derived.Lib.Hide
import Derived.Below
import Derived.RegionTactic
import Derived.NoCompiler
set_option linter.unusedSimpArgs false
set_option linter.unusedVariables false
set_option maxRecDepth 100000
set_option maxHeartbeats 16000000
namespace Go.Proofs.YtijkdpdmclkmlaaGreatDoor
open Go.RowKit
/-- The slice with address A reads as the cells xs. Nil and empty slices: xs = []. -/
def Cells (w : World) (A : Option Addr) (xs : List Value) : Prop :=
  ∀ j u, xs[j]? = some u → ∃ b o, A = some ⟨b, o, none⟩ ∧ w.cell? ⟨b, o + j, none⟩ = some u

abbrev ints (xs : List Int) : List Value := xs.map (Value.int .i64)

section
variable {w w' : World} {A : Option Addr} {xs : List Value} {base : Nat} {e : TypeId} {size : Nat} {v : Value} {n c : Nat}

theorem Cells.nil (w : World) (A : Option Addr) : Cells w A [] := fun j u h => by simp at h

theorem Cells.keep (h : Cells w A xs) (hk : ∀ p : Addr, ∀ u, w.cell? p = some u → w'.cell? p = some u) : Cells w' A xs := fun j u hj => by
  obtain ⟨b, o, e, hc⟩ := h j u hj
  exact ⟨b, o, e, hk _ _ hc⟩

theorem cell_below {B : Nat} (hb : Below B w w') {p : Addr} {u : Value} (h : w.cell? p = some u) (hp : p.block < B) : w'.cell? p = some u := (hb.cell hp).trans h

theorem Cells.below (h : Cells w A xs) (hb : Below w.heap.size w w') : Cells w' A xs :=
  h.keep fun p u hc => cell_below hb hc (World.block_lt_of_cell? w p hc)

theorem Cells.alloc (h : Cells w A xs) (o : Obj) : Cells (w.alloc o) A xs := h.below ((Below.refl _ _).alloc (Nat.le_refl _) o)
theorem Cells.drew (h : Cells w A xs) : Cells w.drew A xs := h

/-- Where the first cell is: one address for all of them. -/
theorem Cells.at_ (h : Cells w A xs) {k : Nat} (hk : k < xs.length) : ∃ b o, A = some ⟨b, o, none⟩ ∧ ∀ j u, xs[j]? = some u → w.cell? ⟨b, o + j, none⟩ = some u := by
  obtain ⟨b, o, rfl, _⟩ := h k _ (List.getElem?_eq_getElem hk)
  refine ⟨b, o, rfl, fun j u hj => ?_⟩
  obtain ⟨b', o', e, hc⟩ := h j u hj
  cases e
  exact hc

theorem Cells.of_owns (h : w.ownsRow base e size (.slice A n c) n xs) : Cells w A xs := fun j u hj => by
  obtain ⟨hl, h⟩ := h
  rcases h with ⟨e, hn⟩ | ⟨g, cap, cur, e, hb, hg, h1, h2, h3, h4⟩
  · subst hn
    simp at hl
    subst hl
    simp at hj
  cases e
  refine ⟨g, 0, rfl, ?_⟩
  rw [Nat.zero_add, cell_of_row w g j cur _ _ hg]
  have := (List.getElem?_eq_some_iff.1 hj).1
  rw [← h4, List.getElem?_take, if_pos (by omega)] at hj
  simpa using hj

theorem owns_form (h : w.ownsRow base e size v n xs) : ∃ A c, v = .slice A n c ∧ w.ownsRow base e size (.slice A n c) n xs := by
  rcases h.2 with ⟨rfl, rfl⟩ | ⟨g, cap, cur, rfl, _⟩
  · exact ⟨none, 0, rfl, h⟩
  exact ⟨_, _, rfl, h⟩

theorem owns_below {B : Nat} (h : w.ownsRow base e size v n xs) (hb : Below B w w') (hB : w.heap.size ≤ B) : w'.ownsRow base e size v n xs := by
  refine ⟨h.1, ?_⟩
  rcases h.2 with hn | ⟨g, cap, cur, rfl, hbg, hg, rest⟩
  · exact .inl hn
  have := (Array.getElem?_eq_some_iff.1 hg).1
  exact .inr ⟨g, cap, cur, rfl, hbg, by rw [hb.block g (by omega)]; exact hg, rest⟩

theorem owns_mono {b' : Nat} (h : w.ownsRow base e size v n xs) (hb : b' ≤ base) : w.ownsRow b' e size v n xs := by
  refine ⟨h.1, ?_⟩
  rcases h.2 with hn | ⟨g, cap, cur, rfl, hbg, rest⟩
  · exact .inl hn
  exact .inr ⟨g, cap, cur, rfl, by omega, rest⟩
end

theorem getElem?_ints (xs : List Int) (j : Nat) (h : j < xs.length) : (ints xs)[j]? = some (.int .i64 (xs.getD j 0)) := by
  simp [ints, h]

theorem Cells.int {w : World} {A : Option Addr} {xs : List Int} (h : Cells w A (ints xs)) {k : Nat} (hk : k < xs.length) :
    ∃ b o, A = some ⟨b, o, none⟩ ∧ ∀ j, j < xs.length → w.cell? ⟨b, o + j, none⟩ = some (.int .i64 (xs.getD j 0)) := by
  obtain ⟨b, o, e, hc⟩ := h.at_ (k := k) (by simpa [ints] using hk)
  exact ⟨b, o, e, fun j hj => hc j _ (getElem?_ints xs j hj)⟩

theorem str_ne {x y : ByteArray} (h : x ≠ y) : (x.toList == y.toList) = false := by
  rw [beq_eq_false_iff_ne]
  intro e
  rw [ByteArray.toList_eq, ByteArray.toList_eq] at e
  exact h (ByteArray.ext (Array.toList_inj.1 e))

theorem str_eq (x : ByteArray) : (x.toList == x.toList) = true := by rw [beq_self_eq_true]

/-- Outside S nothing that was there has turned. -/
structure Kept (S : Nat → Prop) (w w' : World) : Prop where
  os : w'.os = w.os
  tape : w'.tape = w.tape
  output : w'.output = w.output
  size : w.heap.size ≤ w'.heap.size
  block : ∀ k, k < w.heap.size → ¬ S k → w'.heap[k]? = w.heap[k]?

section
variable {w w' w'' : World} {S T : Nat → Prop} {v : Value} {n : Nat} {cs : List Value}

theorem Kept.refl (S : Nat → Prop) (w : World) : Kept S w w := ⟨rfl, rfl, rfl, Nat.le_refl _, fun _ _ _ => rfl⟩
theorem Kept.trans (h : Kept S w w') (k : Kept S w' w'') : Kept S w w'' :=
  ⟨k.os.trans h.os, k.tape.trans h.tape, k.output.trans h.output, Nat.le_trans h.size k.size, fun b hb hs => (k.block b (Nat.lt_of_lt_of_le hb h.size) hs).trans (h.block b hb hs)⟩
theorem Kept.mono (h : Kept S w w') (hs : ∀ b, S b → T b) : Kept T w w' := ⟨h.os, h.tape, h.output, h.size, fun b hb ht => h.block b hb (fun k => ht (hs b k))⟩
theorem Kept.of_below (h : Below w.heap.size w w') (S : Nat → Prop) : Kept S w w' := ⟨h.os, h.tape, h.output, h.size, fun b hb _ => h.block b hb⟩
theorem Kept.below {B : Nat} (h : Kept S w w') (hs : ∀ b, S b → B ≤ b) (hB : B ≤ w.heap.size) : Below B w w' := ⟨h.os, h.tape, h.output, h.size, fun b hb => h.block b (by omega) (fun k => by have := hs b k; omega)⟩
theorem Kept.drew (h : Kept S w w') : Kept S w w'.drew := ⟨h.os, h.tape, h.output, h.size, h.block⟩
theorem Kept.setCell (h : Kept S w w') {p : Addr} (hp : S p.block) (u : Value) : Kept S w (w'.setCell p u) :=
  ⟨h.os, h.tape, h.output, by simpa [World.setCell] using h.size, fun b hb hs => (Below.heap_setCell w' p u b (fun e => hs (by rw [e]; exact hp))).trans (h.block b hb hs)⟩

theorem lt_of_cell {p : Addr} {u : Value} (h : w.cell? p = some u) : p.block < w.heap.size := World.block_lt_of_cell? w p h

end

section
variable {W : World} {P : Nat} {a0 a1 a2 a3 a4 a5 : Value} {t : TypeId}
/-- The six cells of a bigraph's box. -/
theorem row6 (h : W.heap[P]? = some (.cells #[a0, a1, a2, a3, a4, a5] t)) : W.cell? ⟨P, 0, none⟩ = some a0 ∧ W.cell? ⟨P, 1, none⟩ = some a1 ∧ W.cell? ⟨P, 2, none⟩ = some a2 ∧ W.cell? ⟨P, 3, none⟩ = some a3 ∧ W.cell? ⟨P, 4, none⟩ = some a4 ∧ W.cell? ⟨P, 5, none⟩ = some a5 :=
  ⟨cell_of_row _ _ 0 _ _ _ h, cell_of_row _ _ 1 _ _ _ h, cell_of_row _ _ 2 _ _ _ h, cell_of_row _ _ 3 _ _ _ h, cell_of_row _ _ 4 _ _ _ h, cell_of_row _ _ 5 _ _ _ h⟩
theorem row6f (h : W.heap[P]? = some (.cells #[a0, a1, a2, a3, a4, a5] t)) : W.cell? ⟨P, 0, none⟩ = some a0 ∧ W.cell? ⟨P, 1, none⟩ = some a1 ∧ W.cell? ⟨P, 2, none⟩ = some a2 ∧ W.cell? ⟨P, 3, none⟩ = some a3 ∧ W.cell? ⟨P, 4, none⟩ = some a4 ∧ W.cell? ⟨P, 5, none⟩ = some a5 ∧ W.frozen? ⟨P, 0, none⟩ = false ∧ W.frozen? ⟨P, 1, none⟩ = false ∧ W.frozen? ⟨P, 2, none⟩ = false ∧ W.frozen? ⟨P, 3, none⟩ = false ∧ W.frozen? ⟨P, 4, none⟩ = false ∧ W.frozen? ⟨P, 5, none⟩ = false :=
  ⟨cell_of_row _ _ 0 _ _ _ h, cell_of_row _ _ 1 _ _ _ h, cell_of_row _ _ 2 _ _ _ h, cell_of_row _ _ 3 _ _ _ h, cell_of_row _ _ 4 _ _ _ h, cell_of_row _ _ 5 _ _ _ h, frozen_of_row _ _ 0 _ _ h, frozen_of_row _ _ 1 _ _ h, frozen_of_row _ _ 2 _ _ h, frozen_of_row _ _ 3 _ _ h, frozen_of_row _ _ 4 _ _ h, frozen_of_row _ _ 5 _ _ h⟩
end

theorem alloc2 (w : World) (a b : Obj) : Below w.heap.size w ((w.alloc a).alloc b) ∧ ((w.alloc a).alloc b).heap.size = w.heap.size + 1 + 1 ∧ ((w.alloc a).alloc b).heap[w.heap.size]? = some a ∧ ((w.alloc a).alloc b).heap[w.heap.size + 1]? = some b := by
  have s1 : (w.alloc a).heap.size = w.heap.size + 1 := World.size_alloc _ _
  refine ⟨((Below.refl _ _).alloc (Nat.le_refl _) _).alloc (by omega) _, by rw [World.size_alloc, s1], ?_, ?_⟩
  · exact (heap_alloc_old _ _ (by omega)).trans (heap_alloc_new _ _)
  rw [← s1]; exact heap_alloc_new _ _
theorem alloc3 (w : World) (a b c : Obj) : Below w.heap.size w (((w.alloc a).alloc b).alloc c) ∧ (((w.alloc a).alloc b).alloc c).heap.size = w.heap.size + 1 + 1 + 1 ∧ (((w.alloc a).alloc b).alloc c).heap[w.heap.size]? = some a ∧ (((w.alloc a).alloc b).alloc c).heap[w.heap.size + 1]? = some b ∧ (((w.alloc a).alloc b).alloc c).heap[w.heap.size + 1 + 1]? = some c := by
  have s1 : (w.alloc a).heap.size = w.heap.size + 1 := World.size_alloc _ _
  have s2 : ((w.alloc a).alloc b).heap.size = w.heap.size + 1 + 1 := by rw [World.size_alloc, s1]
  refine ⟨(((Below.refl _ _).alloc (Nat.le_refl _) _).alloc (by omega) _).alloc (by omega) _, by rw [World.size_alloc, s2], ?_, ?_, ?_⟩
  · exact (heap_alloc_old _ _ (by omega)).trans ((heap_alloc_old _ _ (by omega)).trans (heap_alloc_new _ _))
  · exact (heap_alloc_old _ _ (by omega)).trans (by rw [← s1]; exact heap_alloc_new _ _)
  rw [← s2]; exact heap_alloc_new _ _
theorem alloc4 (w : World) (a b c d : Obj) : Below w.heap.size w ((((w.alloc a).alloc b).alloc c).alloc d) ∧ ((((w.alloc a).alloc b).alloc c).alloc d).heap.size = w.heap.size + 1 + 1 + 1 + 1 ∧ ((((w.alloc a).alloc b).alloc c).alloc d).heap[w.heap.size]? = some a ∧ ((((w.alloc a).alloc b).alloc c).alloc d).heap[w.heap.size + 1]? = some b ∧ ((((w.alloc a).alloc b).alloc c).alloc d).heap[w.heap.size + 1 + 1]? = some c ∧ ((((w.alloc a).alloc b).alloc c).alloc d).heap[w.heap.size + 1 + 1 + 1]? = some d := by
  have s1 : (w.alloc a).heap.size = w.heap.size + 1 := World.size_alloc _ _
  have s2 : ((w.alloc a).alloc b).heap.size = w.heap.size + 1 + 1 := by rw [World.size_alloc, s1]
  have s3 : (((w.alloc a).alloc b).alloc c).heap.size = w.heap.size + 1 + 1 + 1 := by rw [World.size_alloc, s2]
  refine ⟨((((Below.refl _ _).alloc (Nat.le_refl _) _).alloc (by omega) _).alloc (by omega) _).alloc (by omega) _, by rw [World.size_alloc, s3], ?_, ?_, ?_, ?_⟩
  · exact (heap_alloc_old _ _ (by omega)).trans ((heap_alloc_old _ _ (by omega)).trans ((heap_alloc_old _ _ (by omega)).trans (heap_alloc_new _ _)))
  · exact (heap_alloc_old _ _ (by omega)).trans ((heap_alloc_old _ _ (by omega)).trans (by rw [← s1]; exact heap_alloc_new _ _))
  · exact (heap_alloc_old _ _ (by omega)).trans (by rw [← s2]; exact heap_alloc_new _ _)
  rw [← s3]; exact heap_alloc_new _ _
/-- Blocks laid one behind the other, the world named. -/
theorem laid1 (w : World) (a : Obj) : ∃ w0, w0 = w.alloc a ∧ Below w.heap.size w w0 ∧ w0.heap.size = w.heap.size + 1 ∧ w0.heap[w.heap.size]? = some a := ⟨_, rfl, (Below.refl _ _).alloc (Nat.le_refl _) _, World.size_alloc _ _, heap_alloc_new _ _⟩
theorem laid2 (w : World) (a b : Obj) : ∃ w0, w0 = (w.alloc a).alloc b ∧ Below w.heap.size w w0 ∧ w0.heap.size = w.heap.size + 1 + 1 ∧ w0.heap[w.heap.size]? = some a ∧ w0.heap[w.heap.size + 1]? = some b := ⟨_, rfl, alloc2 w a b⟩
theorem laid3 (w : World) (a b c : Obj) : ∃ w0, w0 = ((w.alloc a).alloc b).alloc c ∧ Below w.heap.size w w0 ∧ w0.heap.size = w.heap.size + 1 + 1 + 1 ∧ w0.heap[w.heap.size]? = some a ∧ w0.heap[w.heap.size + 1]? = some b ∧ w0.heap[w.heap.size + 1 + 1]? = some c := ⟨_, rfl, alloc3 w a b c⟩
theorem laid4 (w : World) (a b c d : Obj) : ∃ w0, w0 = (((w.alloc a).alloc b).alloc c).alloc d ∧ Below w.heap.size w w0 ∧ w0.heap.size = w.heap.size + 1 + 1 + 1 + 1 ∧ w0.heap[w.heap.size]? = some a ∧ w0.heap[w.heap.size + 1]? = some b ∧ w0.heap[w.heap.size + 1 + 1]? = some c ∧ w0.heap[w.heap.size + 1 + 1 + 1]? = some d := ⟨_, rfl, alloc4 w a b c d⟩
/-- A block goes on to stand. -/
theorem keepB {w0 : World} {k : Nat} {o : Obj} (h : w0.heap[k]? = some o) : ∀ W, Below w0.heap.size w0 W → W.heap[k]? = some o := fun W hW => (hW.block _ (Array.getElem?_eq_some_iff.1 h).1).trans h

/-- One operation more has come up. -/
def upd (L : Nat → Bool) (i : Nat) : Nat → Bool := fun j => if j = i then true else L j
theorem upd_same (L : Nat → Bool) (i : Nat) : upd L i i = true := by simp [upd]
theorem upd_other {L : Nat → Bool} {i j : Nat} (h : j ≠ i) : upd L i j = L j := by simp [upd, h]

theorem count_set {l : List Bool} {i : Nat} (h : l[i]? = some false) : (l.set i true).count false + 1 = l.count false := by
  induction l generalizing i with
  | nil => simp at h
  | cons a l ih =>
    cases i with
    | zero =>
      simp at h
      subst h
      simp [List.count_cons]
    | succ i =>
      have := ih (by simpa using h)
      simp only [List.set_cons_succ, List.count_cons]
      omega

section
variable {P : Program} {md : Region.Mode} {ops : Array Oper} {Q : Exit → Act → World → Prop}

theorem wpAny_inv (J : (Nat → Bool) → Act → World → Prop)
    (step : ∀ (L : Nat → Bool) (a : Act) (w : World) (i : Nat) (o : Oper), J L a w → L i = false → ops[i]? = some o → (∀ e ∈ o.after, Region.binds md e = true → L e.on = true) →
      ∀ K' : Act → World → Prop, (∀ a' w', J (upd L i) a' w' → K' a' w') → if Region.wanted o (yielded ops a.tmps) = true then Oper.wp P o a w K' Q else K' (a.put o.dst undef) w)
    (fin : ∀ (L : Nat → Bool) (a : Act) (w : World), J L a w → (∀ i o, ops[i]? = some o → L i = false → ∃ e ∈ o.after, Region.binds md e = true ∧ L e.on = false) → Q .normal a w) :
    ∀ (fuel : Nat) (listed : Array Bool) (a : Act) (w : World), listed.size = ops.size → listed.toList.count false ≤ fuel → J (fun i => listed.getD i false) a w → wpAny P md ops Q fuel listed a w := by
  have hfin : ∀ (listed : Array Bool) (a : Act) (w : World), listed.size = ops.size → J (fun i => listed.getD i false) a w → Region.ready md ops listed = [] → Q .normal a w := fun listed a w hs hJ hr => by
    refine fin _ a w hJ fun i o ho hi => ?_
    have hil : i < listed.size := by rw [hs]; exact (Array.getElem?_eq_some_iff.1 ho).1
    refine Classical.byContradiction fun hn => ?_
    have hm : i ∈ Region.ready md ops listed := mem_ready.2 ⟨by simpa [hil] using hi, o, ho, fun e he hb => by
      cases hx : listed.getD e.on false
      · exact absurd ⟨e, he, hb, hx⟩ hn
      rfl⟩
    rw [hr] at hm
    cases hm
  intro fuel
  induction fuel with
  | zero =>
    intro listed a w hs hc hJ
    have hr : Region.ready md ops listed = [] := by
      rw [List.eq_nil_iff_forall_not_mem]
      intro i hi
      obtain ⟨h1, o, ho, _⟩ := mem_ready.1 hi
      have hil : i < listed.size := by rw [hs]; exact (Array.getElem?_eq_some_iff.1 ho).1
      have h2 : listed[i] = false := by simpa [hil] using h1
      have : false ∈ listed.toList := by rw [← h2]; simp
      have := List.count_pos_iff.2 this
      omega
    exact ⟨hr, hfin listed a w hs hJ hr⟩
  | succ fuel ih =>
    intro listed a w hs hc hJ
    refine ⟨hfin listed a w hs hJ, fun i hi => ?_⟩
    obtain ⟨h1, o, ho, hd⟩ := mem_ready.1 hi
    have hil : i < listed.size := by rw [hs]; exact (Array.getElem?_eq_some_iff.1 ho).1
    have h2 : listed[i] = false := by simpa [hil] using h1
    refine wpOp_step ho fun K' hK => step _ a w i o hJ (by simpa [hil] using h2) ho hd K' fun a' w' hJ' => hK a' w' (ih _ a' w' (by simpa using hs) ?_ ?_)
    · rw [Array.toList_setIfInBounds]
      have := count_set (l := listed.toList) (i := i) (by rw [Array.getElem?_toList, Array.getElem?_eq_getElem hil, h2])
      omega
    have e : (fun j => (listed.setIfInBounds i true).getD j false) = upd (fun j => listed.getD j false) i := by
      funext j
      unfold upd
      by_cases hj : j = i
      · subst hj
        simp [hil]
      rw [if_neg hj]
      simp [Array.getD_eq_getD_getElem?, Array.getElem?_setIfInBounds, Ne.symm hj]
    rw [e]
    exact hJ'

/-- The region as a whole. -/
theorem wp_region_inv {id : Nat} {a : Act} {w : World} (hm : P.follows .mixedOrders = true) (J : (Nat → Bool) → Act → World → Prop) (h0 : J (fun _ => false) a w.drew)
    (step : ∀ (L : Nat → Bool) (a : Act) (w : World) (i : Nat) (o : Oper), J L a w → L i = false → ops[i]? = some o → (∀ e ∈ o.after, Region.binds .any e = true → L e.on = true) →
      ∀ K' : Act → World → Prop, (∀ a' w', J (upd L i) a' w' → K' a' w') → if Region.wanted o (yielded ops a.tmps) = true then Oper.wp P o a w K' Q else K' (a.put o.dst undef) w)
    (fin : ∀ (L : Nat → Bool) (a : Act) (w : World), J L a w → (∀ i o, ops[i]? = some o → L i = false → ∃ e ∈ o.after, Region.binds .any e = true ∧ L e.on = false) → Q .normal a w) :
    (Code.region id ops true).wp P Q a w := by
  refine wp_region_any hm (wpAny_inv J step fin ops.size _ a _ (by simp) ?_ ?_)
  · have h : (Array.replicate ops.size false).toList.count false ≤ (Array.replicate ops.size false).toList.length := List.count_le_length
    rw [Array.length_toList, Array.size_replicate] at h
    exact h
  have e : (fun i => (Array.replicate ops.size false).getD i false) = fun _ => false := by
    funext i
    simp [Array.getD_eq_getD_getElem?, Array.getElem?_replicate]
    split <;> rfl
  rw [e]
  exact h0

end

end Go.Proofs.YtijkdpdmclkmlaaGreatDoor
