/- One row of the table made longer by a drawn number: what holds of the memory meanwhile (labelled's region 23). -/
import Derived.Test.YtdgnhfhaaghoaaaGreatDoorProg
import Derived.Test.YtdgnhfhaaghoaaaGreatDoorJ30
set_option linter.unusedSimpArgs false
set_option linter.unusedVariables false
namespace Go.Proofs.YtdgnhfhaaghoaaaGreatDoor
open Go.RowKit

/-- The table's row and the rows, by name. -/
def TV (W : World) (B : Nat) (u : Value) (n : Nat) (l : List (List Int)) (vs : List Value) : Prop :=
  W.ownsRow B 30 1 u n vs ∧ ∀ (i : Nat) v xs, vs[i]? = some v → l[i]? = some xs → W.ownsRow B 3 1 v xs.length (ints xs)
def DJ (vs : List Value) : Prop := ∀ (i j : Nat) v v' b, i < j → vs[i]? = some v → vs[j]? = some v' → v.ownBlock = some b → v'.ownBlock ≠ some b
theorem TV.below {W W' : World} {B : Nat} {u : Value} {n : Nat} {l : List (List Int)} {vs : List Value} (h : TV W B u n l vs) (hb : Below W.heap.size W W') : TV W' B u n l vs :=
  ⟨owns_below h.1 hb (Nat.le_refl _), fun i v xs a b => owns_below (h.2 i v xs a b) hb (Nat.le_refl _)⟩
theorem TV.keptG {W W' : World} {S : Nat → Prop} {B : Nat} {u : Value} {n : Nat} {l : List (List Int)} {vs : List Value} (h : TV W B u n l vs) (hk : Kept S W W') (hS : ∀ q, S q → q < B) : TV W' B u n l vs :=
  ⟨owns_keptG h.1 hk hS, fun i v xs a b => owns_keptG (h.2 i v xs a b) hk hS⟩

structure RS (w : World) (p B P : Nat) (A : Option Addr) (bs : List Int) (c K : Nat) (u t : Value) (l : Lab) (r0 : Value) (vr : List Value) (r : List Int) (rest : List (List Int)) (lit : List Int) (x : Int) (b7 b8 b9 b10 b12 : Bool) (g7 g9 : Nat) (v : Value) (W : World) : Prop where
  o8 : b8 = true → b7 = true
  o9 : b9 = true → b8 = true
  o10 : b10 = true → b9 = true
  o12 : b12 = true → b10 = true
  d : b10 = false → LD w p B P A bs c (K + 2 * b8.toNat) u t l W ∧ TV W B u l.shows.length (r :: rest) (r0 :: vr)
  l7 : b7 = true → b10 = false → B ≤ g7 ∧ W.heap[g7]? = some (.cells (ints lit).toArray 3)
  h9 : b9 = true → b10 = false → W.heap[g9]? = some (.cells #[.int .i64 x] 3)
  k : b10 = true → b12 = false → Kept (fun q => q = p ∨ B ≤ q) w W ∧ Cur W p A bs c (K + 2) ∧ W.heap[P]? = some (.cells #[u, t] 27) ∧ W.ownsRow B 103 3 t l.steps.length (l.steps.flatMap tri) ∧ W.ownsRow B 30 1 u l.shows.length (r0 :: vr) ∧ (∀ (i : Nat) v xs, vr[i]? = some v → rest[i]? = some xs → W.ownsRow B 3 1 v xs.length (ints xs)) ∧ W.ownsRow B 3 1 v (r ++ [x]).length (ints (r ++ [x]))
  f : b12 = true → LX w p B P A bs c (K + 2) u t ⟨(r ++ [x]) :: rest, l.steps⟩ W
section
variable {w W W' : World} {p B P c K : Nat} {A : Option Addr} {bs : List Int} {u t r0 v : Value} {l : Lab} {vr : List Value} {r : List Int} {rest : List (List Int)} {lit : List Int} {x : Int} {b7 b8 b9 b10 b12 : Bool} {g7 g9 : Nat}
theorem RS.start (h : LD w p B P A bs c K u t l W) (hT : TV W B u l.shows.length (r :: rest) (r0 :: vr)) (lit : List Int) (x : Int) (g7 g9 : Nat) (v : Value) : RS w p B P A bs c K u t l r0 vr r rest lit x false false false false false g7 g9 v W.drew :=
  { o8 := fun h => (nomatch h), o9 := fun h => (nomatch h), o10 := fun h => (nomatch h), o12 := fun h => (nomatch h), d := fun _ => ⟨h.lay (Below.refl _ _).drew, hT.below (Below.refl _ _).drew⟩, l7 := fun h => (nomatch h), h9 := fun h => (nomatch h), k := fun h => (nomatch h), f := fun h => (nomatch h) }
theorem RS.q9 (h : RS w p B P A bs c K u t l r0 vr r rest lit x b7 b8 false b10 b12 g7 g9 v W) : b10 = false ∧ b12 = false := by
  have e10 : b10 = false := by cases b10; rfl; exact absurd (h.o10 rfl) (by simp)
  exact ⟨e10, by cases b12; rfl; exact absurd (h.o12 rfl) (by simp [e10])⟩
theorem RS.q8 (h : RS w p B P A bs c K u t l r0 vr r rest lit x b7 false b9 b10 b12 g7 g9 v W) : b9 = false ∧ b10 = false ∧ b12 = false := by
  have e9 : b9 = false := by cases b9; rfl; exact absurd (h.o9 rfl) (by simp)
  subst e9
  exact ⟨rfl, h.q9⟩
theorem RS.box (h : RS w p B P A bs c K u t l r0 vr r rest lit x b7 b8 b9 b10 b12 g7 g9 v W) (e : b12 = false) : W.heap[P]? = some (.cells #[u, t] 27) := by
  cases e10 : b10
  · exact (h.d e10).1.box
  · exact (h.k e10 e).2.2.1
theorem RS.lit7 (h : RS w p B P A bs c K u t l r0 vr r rest lit x false b8 b9 b10 b12 g7 g9 v W) (hB : B ≤ w.heap.size) : RS w p B P A bs c K u t l r0 vr r rest lit x true b8 b9 b10 b12 W.heap.size g9 v (W.alloc (.cells (ints lit).toArray 3)) := by
  have e8 : b8 = false := by cases b8; rfl; exact absurd (h.o8 rfl) (by simp)
  subst e8
  obtain ⟨rfl, rfl, rfl⟩ := h.q8
  have hb : Below W.heap.size W (W.alloc (.cells (ints lit).toArray 3)) := (Below.refl _ _).alloc (Nat.le_refl _) _
  exact { o8 := fun h => (nomatch h), o9 := fun h => (nomatch h), o10 := fun h => (nomatch h), o12 := fun h => (nomatch h), d := fun _ => ⟨(h.d rfl).1.lay hb, (h.d rfl).2.below hb⟩, l7 := fun _ _ => ⟨by have := (h.d rfl).1.size; omega, heap_alloc_new _ _⟩, h9 := fun h => (nomatch h), k := fun h => (nomatch h), f := fun h => (nomatch h) }
theorem RS.draw {x' : Int} (h : RS w p B P A bs c K u t l r0 vr r rest lit x true false b9 b10 b12 g7 g9 v W) (hpB : p < B) (hBP : B ≤ P) (hk : Kept (fun q => q = p) W W') (hC : Cur W' p A bs c (K + 2)) : RS w p B P A bs c K u t l r0 vr r rest lit x' true true b9 b10 b12 g7 g9 v W' := by
  obtain ⟨rfl, rfl, rfl⟩ := h.q8
  obtain ⟨h1, h2⟩ := h.l7 rfl rfl
  exact { o8 := fun _ => rfl, o9 := fun h => (nomatch h), o10 := fun h => (nomatch h), o12 := fun h => (nomatch h), d := fun _ => ⟨(h.d rfl).1.draw hpB hBP hk hC, (h.d rfl).2.keptG hk (fun q hq => by omega)⟩, l7 := fun _ _ => ⟨h1, (hk.block _ (Array.getElem?_eq_some_iff.1 h2).1 (by omega)).trans h2⟩, h9 := fun h => (nomatch h), k := fun h => (nomatch h), f := fun h => (nomatch h) }
theorem RS.build (h : RS w p B P A bs c K u t l r0 vr r rest lit x b7 true false b10 b12 g7 g9 v W) : RS w p B P A bs c K u t l r0 vr r rest lit x b7 true true b10 b12 g7 W.heap.size v (W.alloc (.cells #[.int .i64 x] 3)) := by
  obtain ⟨rfl, rfl⟩ := h.q9
  have e7 := h.o8 rfl
  subst e7
  obtain ⟨h1, h2⟩ := h.l7 rfl rfl
  have hb : Below W.heap.size W (W.alloc (.cells #[.int .i64 x] 3)) := (Below.refl _ _).alloc (Nat.le_refl _) _
  exact { o8 := fun _ => rfl, o9 := fun _ => rfl, o10 := fun h => (nomatch h), o12 := fun h => (nomatch h), d := fun _ => ⟨(h.d rfl).1.lay hb, (h.d rfl).2.below hb⟩, l7 := fun _ _ => ⟨h1, (hb.block _ (Array.getElem?_eq_some_iff.1 h2).1).trans h2⟩, h9 := fun _ _ => heap_alloc_new _ _, k := fun h => (nomatch h), f := fun h => (nomatch h) }
theorem RS.app {v' : Value} (h : RS w p B P A bs c K u t l r0 vr r rest lit x b7 true true false b12 g7 g9 v W) (hpB : p < B) (hdj : DJ (r0 :: vr)) (ho : W'.ownsRow B 3 1 v' (r.length + 1) (ints r ++ [.int .i64 x])) (hg : W.grownBy W' r0.ownBlock) : RS w p B P A bs c K u t l r0 vr r rest lit x b7 true true true b12 g7 g9 v' W' := by
  have e12 : b12 = false := by cases b12; rfl; exact absurd (h.o12 rfl) (by simp)
  subst e12
  obtain ⟨hL, hT⟩ := h.d rfl
  have hr0 := hT.2 0 r0 r rfl rfl
  have hk := kept_of_grown hg
  have e1 : (r ++ [x]).length = r.length + 1 := by simp
  have e2 : ints (r ++ [x]) = ints r ++ [.int .i64 x] := by simp [ints]
  refine { o8 := h.o8, o9 := fun _ => rfl, o10 := fun _ => rfl, o12 := fun h => (nomatch h), d := fun h => (nomatch h), l7 := fun _ h => (nomatch h), h9 := fun _ h => (nomatch h), f := fun h => (nomatch h), k := ?_ }
  intro _ _
  exact ⟨hL.k.trans (hk.mono fun b hb => .inr (hr0.lt b hb).1), hL.cur.kept hk (fun q hq => by have := (hr0.lt q hq).1; omega), (hk.block P (Array.getElem?_eq_some_iff.1 hL.box).1 (fun e => owns_type' hr0 hL.box (by decide) e)).trans hL.box, owns_kept hL.S hk (fun g hg e => owns_apart' hL.S hr0 (by decide) g hg e), owns_kept hT.1 hk (fun g hg e => owns_apart' hT.1 hr0 (by decide) g hg e),
      fun i v xs a b => owns_kept (hT.2 (i + 1) v xs (by simpa using a) (by simpa using b)) hk (fun g hg e => hdj 0 (i + 1) r0 v g (by omega) rfl (by simpa using a) e hg), by rw [e1, e2]; exact ho⟩
theorem RS.store {gu n cu : Nat} (h : RS w p B P A bs c K (.slice (some ⟨gu, 0, none⟩) n cu) t l r0 vr r rest lit x b7 b8 b9 true false g7 g9 v W) (hn : n = l.shows.length) (hnl : (r :: rest).length = n) (hpB : p < B) (hz : DSz ⟨(r ++ [x]) :: rest, l.steps⟩) : RS w p B P A bs c K (.slice (some ⟨gu, 0, none⟩) n cu) t l r0 vr r rest lit x b7 b8 b9 true true g7 g9 v (W.setCell ⟨gu, 0, none⟩ v) := by
  obtain ⟨h1, h2, h3, h4, h5, h6, h7⟩ := h.k rfl rfl
  subst hn
  have hK : Kept (fun q => q = gu) W (W.setCell ⟨gu, 0, none⟩ v) := (Kept.refl _ W).setCell (S := fun q => q = gu) (p := ⟨gu, 0, none⟩) rfl _
  have hgu := (h5.lt gu rfl).1
  have h8 := (h5.stored 0 v).1
  refine { o8 := h.o8, o9 := h.o9, o10 := h.o10, o12 := fun _ => rfl, d := fun h => (nomatch h), l7 := fun _ h => (nomatch h), h9 := fun _ h => (nomatch h), k := fun _ h => (nomatch h), f := ?_ }
  intro _
  have hT : LRows (W.setCell ⟨gu, 0, none⟩ v) B (.slice (some ⟨gu, 0, none⟩) l.shows.length cu) ((r ++ [x]) :: rest) := by
    refine ⟨v :: vr, by simpa [← hnl] using h8, fun i v' xs a b => ?_⟩
    cases i with
    | zero =>
      simp at a b
      subst a
      subst b
      exact owns_kept h7 hK (fun g hg e => owns_apart' h7 h5 (by decide) g hg (by rw [e]; rfl))
    | succ i =>
      have h9 := h6 i v' xs (by simpa using a) (by simpa using b)
      exact owns_kept h9 hK (fun g hg e => owns_apart' h9 h5 (by decide) g hg (by rw [e]; rfl))
  exact { k := h1.trans (hK.mono fun b hb => .inr (by omega)), cur := h2.kept hK (fun q hq => by omega), box := (hK.block P (Array.getElem?_eq_some_iff.1 h3).1 (fun e => owns_type' h5 h3 (by decide) (by rw [e]; rfl))).trans h3, T := hT, S := owns_kept h4 hK (fun g hg e => owns_apart' h4 h5 (by decide) g hg (by rw [e]; rfl)), z := hz }
end

end Go.Proofs.YtdgnhfhaaghoaaaGreatDoor
