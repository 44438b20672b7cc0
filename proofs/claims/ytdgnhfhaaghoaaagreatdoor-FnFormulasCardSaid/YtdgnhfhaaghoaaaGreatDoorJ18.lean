/- A labelled system that is being drawn: what holds of the memory while it grows. -/
import Derived.Test.YtdgnhfhaaghoaaaGreatDoorProg
import Derived.Test.YtdgnhfhaaghoaaaGreatDoorJ1
import Derived.Test.YtdgnhfhaaghoaaaGreatDoorJ16
import Derived.Test.YtdgnhfhaaghoaaaGreatDoorJ17
set_option linter.unusedSimpArgs false
set_option linter.unusedVariables false
namespace Go.Proofs.YtdgnhfhaaghoaaaGreatDoor
open Go.RowKit

theorem TRows.keptG {w w' : World} {S : Nat → Prop} {B : Nat} {u : Value} {l : List (List Int)} (h : TRows w B u l) (hk : Kept S w w') (hS : ∀ q, S q → q < B) : TRows w' B u l := by
  obtain ⟨vs, a, b, c⟩ := h
  exact ⟨vs, owns_kept a hk (fun q hq e => by have := (a.lt q hq).1; have := hS q e; omega), fun i v xs x y => owns_kept (b i v xs x y) hk (fun q hq e => by have := ((b i v xs x y).lt q hq).1; have := hS q e; omega), c⟩
theorem owns_keptG {w w' : World} {S : Nat → Prop} {B : Nat} {e : TypeId} {s : Nat} {v : Value} {n : Nat} {xs : List Value} (h : w.ownsRow B e s v n xs) (hk : Kept S w w') (hS : ∀ q, S q → q < B) : w'.ownsRow B e s v n xs := owns_kept h hk (fun g hg e => by have := (h.lt g hg).1; have := hS g e; omega)
theorem Kept.below' {S : Nat → Prop} {w w' w'' : World} (h : Kept S w w') (hb : Below w'.heap.size w' w'') : Kept S w w'' := h.trans (Kept.of_below hb S)

/-- The system in the box P, so far; only what lies at B and above, and the cursor, has turned. -/
structure LD (w : World) (p B P : Nat) (A : Option Addr) (bs : List Int) (c K : Nat) (u t : Value) (l : Lab) (W : World) : Prop where
  k : Kept (fun q => q = p ∨ B ≤ q) w W
  cur : Cur W p A bs c K
  box : W.heap[P]? = some (.cells #[u, t] 27)
  T : TRows W B u l.shows
  S : W.ownsRow B 103 3 t l.steps.length (l.steps.flatMap tri)
section
variable {w W W' : World} {p B P c K : Nat} {A : Option Addr} {bs : List Int} {u t : Value} {l : Lab}
theorem LD.size (h : LD w p B P A bs c K u t l W) : w.heap.size ≤ W.heap.size := h.k.size
theorem LD.draw {K' : Nat} (h : LD w p B P A bs c K u t l W) (hpB : p < B) (hBP : B ≤ P) (hk : Kept (fun q => q = p) W W') (hC : Cur W' p A bs c K') : LD w p B P A bs c K' u t l W' :=
  { k := h.k.trans (hk.mono fun b hb => .inl hb), cur := hC, box := (hk.block P (Array.getElem?_eq_some_iff.1 h.box).1 (by omega)).trans h.box, T := h.T.keptG hk (fun q hq => by omega), S := owns_keptG h.S hk (fun q hq => by omega) }
theorem LD.lay (h : LD w p B P A bs c K u t l W) (hb : Below W.heap.size W W') : LD w p B P A bs c K u t l W' :=
  { k := h.k.below' hb, cur := h.cur.below hb, box := (hb.block P (Array.getElem?_eq_some_iff.1 h.box).1).trans h.box, T := h.T.below hb (Nat.le_refl _), S := owns_below h.S hb (Nat.le_refl _) }
theorem LD.mono {K' : Nat} (h : LD w p B P A bs c K u t l W) (hk : K ≤ K') : LD w p B P A bs c K' u t l W := { h with cur := h.cur.mono hk }
/-- A new table in the box. -/
theorem LD.shows {v : Value} {rows : List (List Int)} (h : LD w p B P A bs c K u t l W) (hpB : p < B) (hBP : B ≤ P) (hT : TRows W B v rows) : LD w p B P A bs c K v t ⟨rows, l.steps⟩ (W.setCell ⟨P, 0, none⟩ v) := by
  have hk : ∀ k, k < W.heap.size → k ≠ P → (W.setCell ⟨P, 0, none⟩ v).heap[k]? = W.heap[k]? := fun k _ h2 => heap_setCell_other _ _ _ _ h2
  have hK : Kept (fun q => q = P) W (W.setCell ⟨P, 0, none⟩ v) := (Kept.refl _ W).setCell (S := fun q => q = P) (p := ⟨P, 0, none⟩) rfl _
  exact { k := h.k.trans (hK.mono fun b hb => .inr (by omega)), cur := h.cur.kept hK (fun q hq => by omega), box := heap_setCell_same W P 0 _ _ v h.box, T := hT.but hk h.box (by decide) (by decide), S := owns_but h.S hk h.box (by decide) }
theorem LD.steps {v : Value} {ss : List I3} (h : LD w p B P A bs c K u t l W) (hpB : p < B) (hBP : B ≤ P) (hS : W.ownsRow B 103 3 v ss.length (ss.flatMap tri)) : LD w p B P A bs c K u v ⟨l.shows, ss⟩ (W.setCell ⟨P, 1, none⟩ v) := by
  have hk : ∀ k, k < W.heap.size → k ≠ P → (W.setCell ⟨P, 1, none⟩ v).heap[k]? = W.heap[k]? := fun k _ h2 => heap_setCell_other _ _ _ _ h2
  have hK : Kept (fun q => q = P) W (W.setCell ⟨P, 1, none⟩ v) := (Kept.refl _ W).setCell (S := fun q => q = P) (p := ⟨P, 1, none⟩) rfl _
  exact { k := h.k.trans (hK.mono fun b hb => .inr (by omega)), cur := h.cur.kept hK (fun q hq => by omega), box := heap_setCell_same W P 1 _ _ v h.box, T := h.T.but hk h.box (by decide) (by decide), S := owns_but hS hk h.box (by decide) }
/-- The memory behind an append to the table's row. -/
theorem LD.grownU {vs : List Value} {n : Nat} (h : LD w p B P A bs c K u t l W) (hpB : p < B) (a1 : W.ownsRow B 30 1 u n vs) (hk : Kept (fun q => u.ownBlock = some q) W W') : Kept (fun q => q = p ∨ B ≤ q) w W' ∧ Cur W' p A bs c K ∧ W'.heap[P]? = some (.cells #[u, t] 27) ∧ W'.ownsRow B 103 3 t l.steps.length (l.steps.flatMap tri) :=
  ⟨h.k.trans (hk.mono fun b hb => .inr (a1.lt b hb).1), h.cur.kept hk (fun q hq => by have := (a1.lt q hq).1; omega), (hk.block P (Array.getElem?_eq_some_iff.1 h.box).1 (fun e => owns_type' a1 h.box (by decide) e)).trans h.box, owns_kept h.S hk (fun g hg e => owns_apart' h.S a1 (by decide) g hg e)⟩
theorem LD.grownT (h : LD w p B P A bs c K u t l W) (hpB : p < B) (hk : Kept (fun q => t.ownBlock = some q) W W') : Kept (fun q => q = p ∨ B ≤ q) w W' ∧ Cur W' p A bs c K ∧ W'.heap[P]? = some (.cells #[u, t] 27) ∧ TRows W' B u l.shows := by
  refine ⟨h.k.trans (hk.mono fun b hb => .inr (h.S.lt b hb).1), h.cur.kept hk (fun q hq => by have := (h.S.lt q hq).1; omega), (hk.block P (Array.getElem?_eq_some_iff.1 h.box).1 (fun e => owns_type' h.S h.box (by decide) e)).trans h.box, ?_⟩
  obtain ⟨vs, a, b, c⟩ := h.T
  exact ⟨vs, owns_kept a hk (fun g hg e => owns_apart' a h.S (by decide) g hg e), fun i v xs x y => owns_kept (b i v xs x y) hk (fun g hg e => owns_apart' (b i v xs x y) h.S (by decide) g hg e), c⟩
theorem LD.shows' {v : Value} {rows : List (List Int)} {ss : List I3} (h1 : Kept (fun q => q = p ∨ B ≤ q) w W) (h2 : Cur W p A bs c K) (h3 : W.heap[P]? = some (.cells #[u, t] 27)) (h4 : W.ownsRow B 103 3 t ss.length (ss.flatMap tri)) (hpB : p < B) (hBP : B ≤ P) (hT : TRows W B v rows) : LD w p B P A bs c K v t ⟨rows, ss⟩ (W.setCell ⟨P, 0, none⟩ v) := by
  have hk : ∀ k, k < W.heap.size → k ≠ P → (W.setCell ⟨P, 0, none⟩ v).heap[k]? = W.heap[k]? := fun k _ h2 => heap_setCell_other _ _ _ _ h2
  have hK : Kept (fun q => q = P) W (W.setCell ⟨P, 0, none⟩ v) := (Kept.refl _ W).setCell (S := fun q => q = P) (p := ⟨P, 0, none⟩) rfl _
  exact { k := h1.trans (hK.mono fun b hb => .inr (by omega)), cur := h2.kept hK (fun q hq => by omega), box := heap_setCell_same W P 0 _ _ v h3, T := hT.but hk h3 (by decide) (by decide), S := owns_but h4 hk h3 (by decide) }
/-- Only the cursor and new memory have turned. -/
theorem LD.newer {K' : Nat} (h : LD w p B P A bs c K u t l W) (hpB : p < B) (hBP : B ≤ P) (hk : Kept (fun q => q = p ∨ W.heap.size ≤ q) W W') (hC : Cur W' p A bs c K') (hB : B ≤ W.heap.size) : LD w p B P A bs c K' u t l W' := by
  have hP := (Array.getElem?_eq_some_iff.1 h.box).1
  refine { k := h.k.trans (hk.mono fun b hb => by rcases hb with hb | hb; exact .inl hb; exact .inr (by omega)), cur := hC, box := (hk.block P hP (by omega)).trans h.box, T := ?_, S := owns_kept h.S hk (fun g hg e => by have := h.S.lt g hg; omega) }
  obtain ⟨vs, a, b, c⟩ := h.T
  exact ⟨vs, owns_kept a hk (fun q hq e => by have := a.lt q hq; omega), fun i v xs x y => owns_kept (b i v xs x y) hk (fun q hq e => by have := (b i v xs x y).lt q hq; omega), c⟩
/-- One row more, whose block lies above the others'. -/
theorem TRows.pushK {w1 w2 : World} {B C : Nat} {u u2 r : Value} {rows : List (List Int)} {x : List Int} {vs : List Value} (a1 : w1.ownsRow B 30 1 u rows.length vs) (a2 : ∀ (i : Nat) v xs, vs[i]? = some v → rows[i]? = some xs → w1.ownsRow B 3 1 v xs.length (ints xs))
    (a3 : ∀ (i j : Nat) v v' b, i < j → vs[i]? = some v → vs[j]? = some v' → v.ownBlock = some b → v'.ownBlock ≠ some b) (a4 : ∀ (i : Nat) v b, vs[i]? = some v → v.ownBlock = some b → b < C)
    (hr : w1.ownsRow C 3 1 r x.length (ints x)) (hB : B ≤ C) (ho : w2.ownsRow B 30 1 u2 (rows.length + 1) (vs ++ [r])) (hk : Kept (fun q => u.ownBlock = some q) w1 w2) : TRows w2 B u2 (rows ++ [x]) := by
  have hvl : vs.length = rows.length := by have := a1.1; omega
  refine ⟨vs ++ [r], by rw [List.length_append]; exact ho, fun i v xs hv hx => ?_, fun i j v v' b hij hv hv' hvb => ?_⟩
  · rcases Nat.lt_trichotomy i vs.length with hi | hi | hi
    · rw [List.getElem?_append_left hi] at hv
      rw [List.getElem?_append_left (by omega)] at hx
      have ha := a2 i v xs hv hx
      exact owns_kept ha hk (fun g hgv => owns_apart' ha a1 (by decide) g hgv)
    · subst hi
      rw [List.getElem?_append_right (Nat.le_refl _), Nat.sub_self] at hv
      rw [hvl, List.getElem?_append_right (Nat.le_refl _), Nat.sub_self] at hx
      simp at hv hx
      subst hv
      subst hx
      have ha := owns_mono hr hB
      exact owns_kept ha hk (fun g hgv => owns_apart' ha a1 (by decide) g hgv)
    · rw [List.getElem?_eq_none (by simp; omega)] at hv
      cases hv
  · have hj : j ≤ vs.length := by
      have := (List.getElem?_eq_some_iff.1 hv').1
      simp at this
      omega
    rw [List.getElem?_append_left (by omega)] at hv
    rcases Nat.lt_or_eq_of_le hj with hj | hj
    · rw [List.getElem?_append_left hj] at hv'
      exact a3 i j v v' b hij hv hv' hvb
    · subst hj
      rw [List.getElem?_append_right (Nat.le_refl _), Nat.sub_self] at hv'
      simp at hv'
      subst hv'
      have h1 := a4 i v b hv hvb
      intro e
      have h2 := (hr.lt b e).1
      omega
theorem TB.kept {S : Nat → Prop} {C : Nat} {rows : List (List Int)} (h : TB W B C u rows) (hk : Kept S W W') (hS : ∀ q, S q → q < B ∨ (C ≤ q ∧ ∀ g, u.ownBlock = some g → g ≠ q)) : TB W' B C u rows := by
  obtain ⟨vs, a, b, c, d⟩ := h
  exact ⟨vs, owns_kept a hk (fun q hq e => by
    have := (a.lt q hq).1
    rcases hS q e with h1 | ⟨_, h2⟩
    · omega
    · exact h2 q hq rfl), fun i v xs x y => owns_kept (b i v xs x y) hk (fun q hq e => by
    have h1 := ((b i v xs x y).lt q hq).1
    have h2 := d i v q x hq
    rcases hS q e with h3 | ⟨h3, _⟩ <;> omega), c, d⟩

/-- While three drawn numbers are put into the row of the box: the draws (b4, b6, b9), the put (b11), the box (b13). -/
structure DS (w : World) (p B P : Nat) (A : Option Addr) (bs : List Int) (c K : Nat) (u t : Value) (l : Lab) (y : I3) (b4 b6 b9 b11 b13 : Bool) (v : Value) (W : World) : Prop where
  o : b13 = true → b11 = true
  d : b11 = false → LD w p B P A bs c (K + 2 * (b4.toNat + b6.toNat + b9.toNat)) u t l W
  e : b11 = true → b13 = false → LD w p B P A bs c (K + 6) u t l W ∧ W.ownsRow B 103 3 v (putG l.steps y).length ((putG l.steps y).flatMap tri)
  f : b13 = true → LD w p B P A bs c (K + 6) u v ⟨l.shows, putG l.steps y⟩ W
variable {y : I3} {b4 b6 b9 b11 b13 : Bool} {v : Value}
theorem DS.start (h : LD w p B P A bs c K u t l W) (y : I3) (v : Value) : DS w p B P A bs c K u t l y false false false false false v W.drew :=
  { o := fun h => (nomatch h), d := fun _ => h.lay ((Below.refl _ _).drew), e := fun h => (nomatch h), f := fun h => (nomatch h) }
theorem DS.q (h : DS w p B P A bs c K u t l y b4 b6 b9 false b13 v W) : b13 = false := by
  cases b13; rfl; exact absurd (h.o rfl) (by simp)
theorem DS.draw4 {y' : I3} (h : DS w p B P A bs c K u t l y false b6 b9 b11 b13 v W) (e11 : b11 = false) (hpB : p < B) (hBP : B ≤ P) (hk : Kept (fun q => q = p) W W') (hC : Cur W' p A bs c (K + 2 * (b6.toNat + b9.toNat) + 2)) : DS w p B P A bs c K u t l y' true b6 b9 b11 b13 v W' := by
  subst e11
  obtain rfl := h.q
  refine { o := h.o, d := fun _ => (h.d rfl).draw hpB hBP hk ?_, e := fun h => (nomatch h), f := fun h => (nomatch h) }
  have e : K + 2 * (true.toNat + b6.toNat + b9.toNat) = K + 2 * (b6.toNat + b9.toNat) + 2 := by simp only [Bool.toNat_true]; omega
  rw [e]; exact hC
theorem DS.draw6 {y' : I3} (h : DS w p B P A bs c K u t l y b4 false b9 b11 b13 v W) (e11 : b11 = false) (hpB : p < B) (hBP : B ≤ P) (hk : Kept (fun q => q = p) W W') (hC : Cur W' p A bs c (K + 2 * (b4.toNat + b9.toNat) + 2)) : DS w p B P A bs c K u t l y' b4 true b9 b11 b13 v W' := by
  subst e11
  obtain rfl := h.q
  refine { o := h.o, d := fun _ => (h.d rfl).draw hpB hBP hk ?_, e := fun h => (nomatch h), f := fun h => (nomatch h) }
  have e : K + 2 * (b4.toNat + true.toNat + b9.toNat) = K + 2 * (b4.toNat + b9.toNat) + 2 := by simp only [Bool.toNat_true]; omega
  rw [e]; exact hC
theorem DS.draw9 {y' : I3} (h : DS w p B P A bs c K u t l y b4 b6 false b11 b13 v W) (e11 : b11 = false) (hpB : p < B) (hBP : B ≤ P) (hk : Kept (fun q => q = p) W W') (hC : Cur W' p A bs c (K + 2 * (b4.toNat + b6.toNat) + 2)) : DS w p B P A bs c K u t l y' b4 b6 true b11 b13 v W' := by
  subst e11
  obtain rfl := h.q
  refine { o := h.o, d := fun _ => (h.d rfl).draw hpB hBP hk ?_, e := fun h => (nomatch h), f := fun h => (nomatch h) }
  have e : K + 2 * (b4.toNat + b6.toNat + true.toNat) = K + 2 * (b4.toNat + b6.toNat) + 2 := by simp only [Bool.toNat_true]; omega
  rw [e]; exact hC
theorem DS.put {v' : Value} (h : DS w p B P A bs c K u t l y b4 b6 b9 false b13 v W) (hb : Below W.heap.size W W') (hr : W'.ownsRow B 103 3 v' (putG l.steps y).length ((putG l.steps y).flatMap tri)) : DS w p B P A bs c K u t l y b4 b6 b9 true b13 v' W' := by
  obtain rfl := h.q
  exact { o := fun h => (nomatch h), d := fun h => (nomatch h), e := fun _ _ => ⟨((h.d rfl).lay hb).mono (by cases b4 <;> cases b6 <;> cases b9 <;> simp), hr⟩, f := fun h => (nomatch h) }
theorem DS.store (h : DS w p B P A bs c K u t l y b4 b6 b9 true false v W) (hpB : p < B) (hBP : B ≤ P) : DS w p B P A bs c K u t l y b4 b6 b9 true true v (W.setCell ⟨P, 1, none⟩ v) :=
  { o := fun _ => rfl, d := fun h => (nomatch h), e := fun _ h => (nomatch h), f := fun _ => (h.e rfl rfl).1.steps hpB hBP (h.e rfl rfl).2 }

theorem putG_pos (l : List I3) (x : I3) : 0 < (putG l x).length := by
  obtain ⟨k, h1, h2, h3⟩ := put_place x l
  rw [putG_at h1 h2 h3]
  split
  · rename_i h; omega
  · simp; omega
theorem put_ownG {g cc : Nat} {ss : List I3} {x : I3} {r : Value} (hr : (r = .slice (some ⟨g, 0, none⟩) ss.length cc ∧ putG ss x = ss) ∨ W'.ownsRow W.heap.size 103 3 r (putG ss x).length ((putG ss x).flatMap tri)) (hb : Below W.heap.size W W') (h : W.ownsRow B 103 3 (.slice (some ⟨g, 0, none⟩) ss.length cc) ss.length (ss.flatMap tri)) (hB : B ≤ W.heap.size) :
    W'.ownsRow B 103 3 r (putG ss x).length ((putG ss x).flatMap tri) := by
  rcases hr with ⟨rfl, e⟩ | hr
  · rw [e]; exact owns_below h hb (Nat.le_refl _)
  · exact owns_mono hr hB
theorem put_formG {ss : List I3} {x : I3} (h : W.ownsRow B 103 3 v (putG ss x).length ((putG ss x).flatMap tri)) : ∃ g c, v = .slice (some ⟨g, 0, none⟩) (putG ss x).length c ∧ (putG ss x).length ≤ c := by
  have hp := putG_pos ss x
  rcases h.2 with ⟨_, e⟩ | ⟨g, c, cur, e, _, _, hc, _⟩
  · omega
  · exact ⟨g, c, e, hc⟩

/-- While three numbers, one of them drawn, are pushed behind the row of the box: the list of choices (b3), the draw (b4), the slice of one (b6), the append (b7), the box (b9). -/
structure AS (w : World) (p B P : Nat) (A : Option Addr) (bs : List Int) (c K : Nat) (u t : Value) (l : Lab) (lit : List Int) (y : I3) (b3 b4 b6 b7 b9 : Bool) (g3 g6 : Nat) (v : Value) (W : World) : Prop where
  o4 : b4 = true → b3 = true
  o6 : b6 = true → b4 = true
  o7 : b7 = true → b6 = true
  o9 : b9 = true → b7 = true
  d : b7 = false → LD w p B P A bs c (K + 2 * b4.toNat) u t l W
  l3 : b3 = true → b7 = false → B ≤ g3 ∧ W.heap[g3]? = some (.cells (ints lit).toArray 3)
  h6 : b6 = true → b7 = false → W.heap[g6]? = some (.cells #[.int .i64 y.1, .int .i64 y.2.1, .int .i64 y.2.2] 103)
  k : b7 = true → b9 = false → Kept (fun q => q = p ∨ B ≤ q) w W ∧ Cur W p A bs c (K + 2) ∧ W.heap[P]? = some (.cells #[u, t] 27) ∧ TRows W B u l.shows ∧ W.ownsRow B 103 3 v (l.steps ++ [y]).length ((l.steps ++ [y]).flatMap tri)
  f : b9 = true → LD w p B P A bs c (K + 2) u v ⟨l.shows, l.steps ++ [y]⟩ W
variable {lit : List Int} {b3 b7 : Bool} {g3 g6 : Nat}
theorem AS.start (h : LD w p B P A bs c K u t l W) (lit : List Int) (y : I3) (g3 g6 : Nat) (v : Value) : AS w p B P A bs c K u t l lit y false false false false false g3 g6 v W.drew :=
  { o4 := fun h => (nomatch h), o6 := fun h => (nomatch h), o7 := fun h => (nomatch h), o9 := fun h => (nomatch h), d := fun _ => h.lay ((Below.refl _ _).drew), l3 := fun h => (nomatch h), h6 := fun h => (nomatch h), k := fun h => (nomatch h), f := fun h => (nomatch h) }
theorem AS.q4 (h : AS w p B P A bs c K u t l lit y b3 false b6 b7 b9 g3 g6 v W) : b6 = false ∧ b7 = false ∧ b9 = false := by
  have e6 : b6 = false := by cases b6; rfl; exact absurd (h.o6 rfl) (by simp)
  have e7 : b7 = false := by cases b7; rfl; exact absurd (h.o7 rfl) (by simp [e6])
  exact ⟨e6, e7, by cases b9; rfl; exact absurd (h.o9 rfl) (by simp [e7])⟩
theorem AS.q6 (h : AS w p B P A bs c K u t l lit y b3 b4 false b7 b9 g3 g6 v W) : b7 = false ∧ b9 = false := by
  have e7 : b7 = false := by cases b7; rfl; exact absurd (h.o7 rfl) (by simp)
  exact ⟨e7, by cases b9; rfl; exact absurd (h.o9 rfl) (by simp [e7])⟩
theorem AS.lit3 (h : AS w p B P A bs c K u t l lit y false b4 b6 b7 b9 g3 g6 v W) (hB : B ≤ w.heap.size) : AS w p B P A bs c K u t l lit y true b4 b6 b7 b9 W.heap.size g6 v (W.alloc (.cells (ints lit).toArray 3)) := by
  have e4 : b4 = false := by cases b4; rfl; exact absurd (h.o4 rfl) (by simp)
  subst e4
  obtain ⟨rfl, rfl, rfl⟩ := h.q4
  have hb : Below W.heap.size W (W.alloc (.cells (ints lit).toArray 3)) := (Below.refl _ _).alloc (Nat.le_refl _) _
  exact { o4 := fun h => (nomatch h), o6 := fun h => (nomatch h), o7 := fun h => (nomatch h), o9 := fun h => (nomatch h), d := fun _ => (h.d rfl).lay hb, l3 := fun _ _ => ⟨by have := (h.d rfl).size; omega, heap_alloc_new _ _⟩, h6 := fun h => (nomatch h), k := fun h => (nomatch h), f := fun h => (nomatch h) }
theorem AS.draw {y' : I3} (h : AS w p B P A bs c K u t l lit y true false b6 b7 b9 g3 g6 v W) (hpB : p < B) (hBP : B ≤ P) (hk : Kept (fun q => q = p) W W') (hC : Cur W' p A bs c (K + 2)) : AS w p B P A bs c K u t l lit y' true true b6 b7 b9 g3 g6 v W' := by
  obtain ⟨rfl, rfl, rfl⟩ := h.q4
  obtain ⟨h1, h2⟩ := h.l3 rfl rfl
  exact { o4 := fun _ => rfl, o6 := fun h => (nomatch h), o7 := fun h => (nomatch h), o9 := fun h => (nomatch h), d := fun _ => (h.d rfl).draw hpB hBP hk hC, l3 := fun _ _ => ⟨h1, (hk.block _ (Array.getElem?_eq_some_iff.1 h2).1 (by omega)).trans h2⟩, h6 := fun h => (nomatch h), k := fun h => (nomatch h), f := fun h => (nomatch h) }
theorem AS.build (h : AS w p B P A bs c K u t l lit y b3 true false b7 b9 g3 g6 v W) : AS w p B P A bs c K u t l lit y b3 true true b7 b9 g3 W.heap.size v (W.alloc (.cells #[.int .i64 y.1, .int .i64 y.2.1, .int .i64 y.2.2] 103)) := by
  obtain ⟨rfl, rfl⟩ := h.q6
  have e3 := h.o4 rfl
  subst e3
  obtain ⟨h1, h2⟩ := h.l3 rfl rfl
  have hb : Below W.heap.size W (W.alloc (.cells #[.int .i64 y.1, .int .i64 y.2.1, .int .i64 y.2.2] 103)) := (Below.refl _ _).alloc (Nat.le_refl _) _
  exact { o4 := fun _ => rfl, o6 := fun _ => rfl, o7 := fun h => (nomatch h), o9 := fun h => (nomatch h), d := fun _ => (h.d rfl).lay hb, l3 := fun _ _ => ⟨h1, (hb.block _ (Array.getElem?_eq_some_iff.1 h2).1).trans h2⟩, h6 := fun _ _ => heap_alloc_new _ _, k := fun h => (nomatch h), f := fun h => (nomatch h) }
theorem AS.app {v' : Value} (h : AS w p B P A bs c K u t l lit y b3 true true false b9 g3 g6 v W) (hpB : p < B) (ho : W'.ownsRow B 103 3 v' (l.steps.length + 1) (l.steps.flatMap tri ++ tri y)) (hg : W.grownBy W' t.ownBlock) : AS w p B P A bs c K u t l lit y b3 true true true b9 g3 g6 v' W' := by
  have e9 : b9 = false := by cases b9; rfl; exact absurd (h.o9 rfl) (by simp)
  subst e9
  obtain ⟨h1, h2, h3, h4⟩ := (h.d rfl).grownT hpB (kept_of_grown hg)
  have e1 : (l.steps ++ [y]).length = l.steps.length + 1 := by simp
  have e2 : (l.steps ++ [y]).flatMap tri = l.steps.flatMap tri ++ tri y := by simp
  exact { o4 := h.o4, o6 := fun _ => rfl, o7 := fun _ => rfl, o9 := fun h => (nomatch h), d := fun h => (nomatch h), l3 := fun _ h => (nomatch h), h6 := fun _ h => (nomatch h), k := fun _ _ => ⟨h1, h2, h3, h4, by rw [e1, e2]; exact ho⟩, f := fun h => (nomatch h) }
theorem AS.store (h : AS w p B P A bs c K u t l lit y b3 b4 b6 true false g3 g6 v W) (hpB : p < B) (hBP : B ≤ P) : AS w p B P A bs c K u t l lit y b3 b4 b6 true true g3 g6 v (W.setCell ⟨P, 1, none⟩ v) := by
  obtain ⟨h1, h2, h3, h4, h5⟩ := h.k rfl rfl
  have hk : ∀ k, k < W.heap.size → k ≠ P → (W.setCell ⟨P, 1, none⟩ v).heap[k]? = W.heap[k]? := fun k _ h2 => heap_setCell_other _ _ _ _ h2
  have hK : Kept (fun q => q = P) W (W.setCell ⟨P, 1, none⟩ v) := (Kept.refl _ W).setCell (S := fun q => q = P) (p := ⟨P, 1, none⟩) rfl _
  exact { o4 := h.o4, o6 := h.o6, o7 := h.o7, o9 := fun _ => rfl, d := fun h => (nomatch h), l3 := fun _ h => (nomatch h), h6 := fun _ h => (nomatch h), k := fun _ h => (nomatch h), f := fun _ => { k := h1.trans (hK.mono fun b hb => .inr (by omega)), cur := h2.kept hK (fun q hq => by omega), box := heap_setCell_same W P 1 _ _ v h3, T := h4.but hk h3 (by decide) (by decide), S := owns_but h5 hk h3 (by decide) } }
end

end Go.Proofs.YtdgnhfhaaghoaaaGreatDoor
