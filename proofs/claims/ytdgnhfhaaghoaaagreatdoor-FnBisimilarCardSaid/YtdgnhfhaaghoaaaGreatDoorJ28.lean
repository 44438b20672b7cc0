/- Plain parts of the reference's formula for two states; lists of rows that grow. l10Put on a row of triples, nil or not; what labelled's tail wants of a system that is being drawn. One row of the table made longer by a drawn number: what holds of the memory meanwhile (labelled's region 23). -/
import Derived.Test.YtdgnhfhaaghoaaaGreatDoorProg
import Derived.Test.YtdgnhfhaaghoaaaGreatDoorJ27
import Derived.Test.YtdgnhfhaaghoaaaGreatDoorJ25
import Derived.Test.YtdgnhfhaaghoaaaGreatDoorJ13
import Derived.Test.YtdgnhfhaaghoaaaGreatDoorJ19
import Derived.Test.YtdgnhfhaaghoaaaGreatDoorJ9
import Derived.Test.YtdgnhfhaaghoaaaGreatDoorJ2
import Derived.Test.YtdgnhfhaaghoaaaGreatDoorJ7
import Derived.Test.YtdgnhfhaaghoaaaGreatDoorJ3
import Derived.Test.YtdgnhfhaaghoaaaGreatDoorJ16
import Derived.Test.YtdgnhfhaaghoaaaGreatDoorJ17
import Derived.Test.YtdgnhfhaaghoaaaGreatDoorJ18
set_option linter.unusedSimpArgs false
set_option linter.unusedVariables false
namespace Go.Proofs.YtdgnhfhaaghoaaaGreatDoor
open Go.RowKit

/-- A list of rows, all of them new. -/
def LRows (w : World) (B : Nat) (u : Value) (xss : List (List Int)) : Prop :=
  ∃ vs : List Value, w.ownsRow B 30 1 u xss.length vs ∧ ∀ (i : Nat) v xs, vs[i]? = some v → xss[i]? = some xs → w.ownsRow B 3 1 v xs.length (ints xs)
section
variable {w w1 w2 w' : World} {B : Nat} {u u2 r : Value} {l : List (List Int)} {x : List Int}
theorem LRows.below {B2 : Nat} (h : LRows w B u l) (hb : Below B2 w w') (hB : w.heap.size ≤ B2) : LRows w' B u l := by
  obtain ⟨vs, h1, h2⟩ := h
  exact ⟨vs, owns_below h1 hb hB, fun i v xs a b => owns_below (h2 i v xs a b) hb hB⟩
theorem LRows.nil (h : w.ownsRow B 30 1 u 0 []) : LRows w B u [] := ⟨[], h, fun i v xs h => by simp at h⟩
theorem LRows.push {vs : List Value} (h1 : w1.ownsRow B 30 1 u l.length vs) (h2 : ∀ (i : Nat) v xs, vs[i]? = some v → l[i]? = some xs → w1.ownsRow B 3 1 v xs.length (ints xs))
    (hr : w1.ownsRow B 3 1 r x.length (ints x)) (ho : w2.ownsRow B 30 1 u2 (l.length + 1) (vs ++ [r])) (hk : Kept (fun q => u.ownBlock = some q) w1 w2) : LRows w2 B u2 (l ++ [x]) := by
  have hvl : vs.length = l.length := by have := h1.1; omega
  refine ⟨vs ++ [r], by rw [List.length_append]; exact ho, fun i v xs hv hx => ?_⟩
  rcases Nat.lt_trichotomy i vs.length with hi | hi | hi
  · rw [List.getElem?_append_left hi] at hv
    rw [List.getElem?_append_left (by omega)] at hx
    have ha := h2 i v xs hv hx
    exact owns_kept ha hk (fun g hgv => owns_apart' ha h1 (by decide) g hgv)
  · subst hi
    rw [List.getElem?_append_right (Nat.le_refl _), Nat.sub_self] at hv
    rw [hvl, List.getElem?_append_right (Nat.le_refl _), Nat.sub_self] at hx
    simp at hv hx
    subst hv
    subst hx
    exact owns_kept hr hk (fun g hgv => owns_apart' hr h1 (by decide) g hgv)
  · rw [List.getElem?_eq_none (by simp; omega)] at hv
    cases hv
theorem LRows.lists (h : LRows w B u l) : ∃ A c, u = .slice A l.length c ∧ l.length ≤ c ∧ Lists w w.heap.size A l := by
  obtain ⟨vs, h1, h2⟩ := h
  rcases h1.2 with ⟨e, e2⟩ | ⟨g, cap, cur, rfl, _, _, hc, _⟩
  · have hl : l = [] := List.length_eq_zero_iff.1 e2
    subst hl
    have hv : vs = [] := List.length_eq_zero_iff.1 (by have := h1.1; simpa using this)
    subst hv
    exact ⟨none, 0, e, Nat.le_refl _, [], rfl, Cells.nil _ _, fun i v xs h => by simp at h⟩
  · refine ⟨some ⟨g, 0, none⟩, cap, rfl, hc, vs, by have := h1.1; omega, Cells.of_owns h1, fun i v xs a b => ⟨owns_mono (h2 i v xs a b) (Nat.zero_le _), fun q hq => ((h2 i v xs a b).lt q hq).2⟩⟩
end

section
variable {wr W W' : World} {a : Int} {G : List Int} {b2 b4 b5 : Bool} {bb : Nat} {r v : Value}
end

end Go.Proofs.YtdgnhfhaaghoaaaGreatDoor

set_option linter.unusedVariables false
namespace Go.Proofs.YtdgnhfhaaghoaaaGreatDoor
open Go.RowKit

theorem l10PutV_any (B : Nat) (v : Value) (l : List I3) (x : I3) (w : World) (hn : l.length ≤ 1000000) (hv : w.ownsRow B 103 3 v l.length (l.flatMap tri)) (hB : B ≤ w.heap.size) :
    Calls Tryz.prog 92 #[v, .agg #[.int .i64 x.1, .int .i64 x.2.1, .int .i64 x.2.2]] w fun e w' => ∃ r, e = .returned r ∧ w'.ownsRow B 103 3 r (putG l x).length ((putG l x).flatMap tri) ∧ Below w.heap.size w w' := by
  rcases hv.2 with ⟨rfl, h0⟩ | ⟨g, cc, cur, rfl, _, _, hc, _⟩
  · have hl : l = [] := by cases l with | nil => rfl | cons a l => simp at h0
    subst hl
    refine (l10PutNil_any x w).mono ?_
    rintro e w' ⟨r, rfl, hr, hb⟩
    have e1 : putG [] x = [x] := by simp [putG]
    refine ⟨r, rfl, ?_, hb⟩
    rw [e1]
    simpa using owns_mono hr hB
  · refine (l10PutG_any g cc l x w hn hc (Cells.of_owns hv)).mono ?_
    rintro e w' ⟨r, rfl, hr, hb⟩
    exact ⟨r, rfl, put_ownG hr hb hv hB, hb⟩

theorem ra3_ownsD {w : World} {B : Nat} {v : Value} {l : List I3} (h : w.ownsRow B 103 3 v l.length (l.flatMap tri)) (hn : l.length ≤ maxLen) : RA3 w v l := by
  obtain ⟨A, c, rfl, h⟩ := owns_form h
  exact ⟨A, c, rfl, hn, Cells.of_owns h⟩
/-- How large a drawn system is. -/
structure DSz (l : Lab) : Prop where
  a : l.shows.length ≤ 60
  b : ∀ xs ∈ l.shows, xs.length ≤ 10
  c : l.steps.length ≤ 100
theorem Kept.shrink {S T : Nat → Prop} {w w' : World} (h : Kept S w w') (hT : ∀ q, q < w.heap.size → S q → T q) : Kept T w w' :=
  ⟨h.os, h.tape, h.output, h.size, fun b hb hn => h.block b hb (fun e => hn (hT b hb e))⟩
theorem LRows.keptG {w w' : World} {S : Nat → Prop} {B : Nat} {u : Value} {l : List (List Int)} (h : LRows w B u l) (hk : Kept S w w') (hS : ∀ q, S q → q < B) : LRows w' B u l := by
  obtain ⟨vs, a, b⟩ := h
  exact ⟨vs, owns_keptG a hk hS, fun i v xs x y => owns_keptG (b i v xs x y) hk hS⟩
theorem LRows.low {w : World} {B C : Nat} {u : Value} {l : List (List Int)} (h : LRows w C u l) (hB : B ≤ C) : LRows w B u l := by
  obtain ⟨vs, a, b⟩ := h
  exact ⟨vs, owns_mono a hB, fun i v xs x y => owns_mono (b i v xs x y) hB⟩
/-- The system in the box P at the end: its rows may lie one in another. -/
structure LX (w : World) (p B P : Nat) (A : Option Addr) (bs : List Int) (c K : Nat) (u t : Value) (l : Lab) (W : World) : Prop where
  k : Kept (fun q => q = p ∨ B ≤ q) w W
  cur : Cur W p A bs c K
  box : W.heap[P]? = some (.cells #[u, t] 27)
  T : LRows W B u l.shows
  S : W.ownsRow B 103 3 t l.steps.length (l.steps.flatMap tri)
  z : DSz l
section
variable {w W W' : World} {p B P c K : Nat} {A : Option Addr} {bs : List Int} {u t : Value} {l : Lab}
theorem LD.rlab (h : LD w p B P A bs c K u t l W) (hs : SmallLab l) : RLab W (.agg #[u, t]) l :=
  ⟨u, t, rfl, h.T.rss hs.1 hs.2.2, ra3_ownsD h.S (by have := hs.2.1; unfold maxLen; omega)⟩
theorem LD.lx {K' : Nat} (h : LD w p B P A bs c K u t l W) (hK : K ≤ K') (hz : DSz l) : LX w p B P A bs c K' u t l W := by
  obtain ⟨vs, a, b, _⟩ := h.T
  exact { k := h.k, cur := h.cur.mono hK, box := h.box, T := ⟨vs, a, b⟩, S := h.S, z := hz }
theorem LX.formU (h : LX w p B P A bs c K u t l W) : ∃ AU cU, u = .slice AU l.shows.length cU := by
  obtain ⟨vs, a, _⟩ := h.T
  obtain ⟨AU, cU, e, _⟩ := owns_form a
  exact ⟨AU, cU, e⟩
theorem LX.formT (h : LX w p B P A bs c K u t l W) : ∃ AT cT, t = .slice AT l.steps.length cT := by
  obtain ⟨AT, cT, e, _⟩ := owns_form h.S
  exact ⟨AT, cT, e⟩
/-- How long the table in the box is. -/
def lenBox (P : Nat) (w : World) : Nat :=
  match w.heap[P]? with
  | some (.cells cs _ _) => (match (cs.getD 0 undef : Value) with | Value.slice _ n _ => n | _ => 0)
  | _ => 0
theorem LD.len {AU : Option Addr} {n cU : Nat} (h : LD w p B P A bs c K (.slice AU n cU) t l W) : lenBox P W = n := by
  simp [lenBox, h.box]
theorem LD.both {v v2 : Value} {rows : List (List Int)} {ss : List I3} (h : LD w p B P A bs c K u t l W) (hpB : p < B) (hBP : B ≤ P) (hT : TRows W B v rows) (hS : W.ownsRow B 103 3 v2 ss.length (ss.flatMap tri)) :
    LD w p B P A bs c K v v2 ⟨rows, ss⟩ ((W.setCell ⟨P, 0, none⟩ v).setCell ⟨P, 1, none⟩ v2) := by
  have hk : ∀ k, k < W.heap.size → k ≠ P → (W.setCell ⟨P, 0, none⟩ v).heap[k]? = W.heap[k]? := fun k _ h2 => heap_setCell_other _ _ _ _ h2
  exact (h.shows hpB hBP hT).steps hpB hBP (owns_but hS hk h.box (by decide))
theorem LD.formU (h : LD w p B P A bs c K u t l W) : ∃ AU cU, u = .slice AU l.shows.length cU := by
  obtain ⟨vs, a, _⟩ := h.T
  obtain ⟨AU, cU, e, _⟩ := owns_form a
  exact ⟨AU, cU, e⟩
theorem LD.formT (h : LD w p B P A bs c K u t l W) : ∃ AT cT, t = .slice AT l.steps.length cT := by
  obtain ⟨AT, cT, e, _⟩ := owns_form h.S
  exact ⟨AT, cT, e⟩
end

end Go.Proofs.YtdgnhfhaaghoaaaGreatDoor

set_option linter.unusedVariables false
namespace Go.Proofs.YtdgnhfhaaghoaaaGreatDoor
open Go.RowKit

/-- The table's row and the rows, by name. -/
def TV (W : World) (B : Nat) (u : Value) (n : Nat) (l : List (List Int)) (vs : List Value) : Prop :=
  W.ownsRow B 30 1 u n vs ∧ ∀ (i : Nat) v xs, vs[i]? = some v → l[i]? = some xs → W.ownsRow B 3 1 v xs.length (ints xs)
def DJ (vs : List Value) : Prop := ∀ (i j : Nat) v v' b, i < j → vs[i]? = some v → vs[j]? = some v' → v.ownBlock = some b → v'.ownBlock ≠ some b
theorem TV.below {W W' : World} {B : Nat} {u : Value} {n : Nat} {l : List (List Int)} {vs : List Value} (h : TV W B u n l vs) (hb : Below W.heap.size W W') : TV W' B u n l vs :=
  ⟨owns_below h.1 hb (Nat.le_refl _), fun i v xs a b => owns_below (h.2 i v xs a b) hb (Nat.le_refl _)⟩
theorem TV.keptG {W W' : World} {S : Nat → Prop} {B : Nat} {u : Value} {n : Nat} {l : List (List Int)} {vs : List Value} (h : TV W B u n l vs) (hk : Kept S W W') (hS : ∀ q, S q → q < B) : TV W' B u n l vs :=
  ⟨owns_keptG h.1 hk hS, fun i v xs a b => owns_keptG (h.2 i v xs a b) hk hS⟩

structure RS (w : World) (p B P : Nat) (A : Option Addr) (bs : List Int) (c K : Nat) (u t : Value) (l : Lab) (r0 : Value) (vr : List Value) (r : List Int) (rest : List (List Int)) (lit : List Int) (x : Int) (b7 b8 b9 b10 b12 : Bool) (g7 g9 : Nat) (v : Value) (W : World) : Prop where
  o8 : b8 = true → b7 = true
  o9 : b9 = true → b8 = true
  o10 : b10 = true → b9 = true
  o12 : b12 = true → b10 = true
  d : b10 = false → LD w p B P A bs c (K + 2 * b8.toNat) u t l W ∧ TV W B u l.shows.length (r :: rest) (r0 :: vr)
  l7 : b7 = true → b10 = false → B ≤ g7 ∧ W.heap[g7]? = some (.cells (ints lit).toArray 3)
  h9 : b9 = true → b10 = false → W.heap[g9]? = some (.cells #[.int .i64 x] 3)
  k : b10 = true → b12 = false → Kept (fun q => q = p ∨ B ≤ q) w W ∧ Cur W p A bs c (K + 2) ∧ W.heap[P]? = some (.cells #[u, t] 27) ∧ W.ownsRow B 103 3 t l.steps.length (l.steps.flatMap tri) ∧ W.ownsRow B 30 1 u l.shows.length (r0 :: vr) ∧ (∀ (i : Nat) v xs, vr[i]? = some v → rest[i]? = some xs → W.ownsRow B 3 1 v xs.length (ints xs)) ∧ W.ownsRow B 3 1 v (r ++ [x]).length (ints (r ++ [x]))
  f : b12 = true → LX w p B P A bs c (K + 2) u t ⟨(r ++ [x]) :: rest, l.steps⟩ W
section
variable {w W W' : World} {p B P c K : Nat} {A : Option Addr} {bs : List Int} {u t r0 v : Value} {l : Lab} {vr : List Value} {r : List Int} {rest : List (List Int)} {lit : List Int} {x : Int} {b7 b8 b9 b10 b12 : Bool} {g7 g9 : Nat}
theorem RS.start (h : LD w p B P A bs c K u t l W) (hT : TV W B u l.shows.length (r :: rest) (r0 :: vr)) (lit : List Int) (x : Int) (g7 g9 : Nat) (v : Value) : RS w p B P A bs c K u t l r0 vr r rest lit x false false false false false g7 g9 v W.drew :=
  { o8 := fun h => (nomatch h), o9 := fun h => (nomatch h), o10 := fun h => (nomatch h), o12 := fun h => (nomatch h), d := fun _ => ⟨h.lay (Below.refl _ _).drew, hT.below (Below.refl _ _).drew⟩, l7 := fun h => (nomatch h), h9 := fun h => (nomatch h), k := fun h => (nomatch h), f := fun h => (nomatch h) }
theorem RS.q9 (h : RS w p B P A bs c K u t l r0 vr r rest lit x b7 b8 false b10 b12 g7 g9 v W) : b10 = false ∧ b12 = false := by
  have e10 : b10 = false := by cases b10; rfl; exact absurd (h.o10 rfl) (by simp)
  exact ⟨e10, by cases b12; rfl; exact absurd (h.o12 rfl) (by simp [e10])⟩
theorem RS.q8 (h : RS w p B P A bs c K u t l r0 vr r rest lit x b7 false b9 b10 b12 g7 g9 v W) : b9 = false ∧ b10 = false ∧ b12 = false := by
  have e9 : b9 = false := by cases b9; rfl; exact absurd (h.o9 rfl) (by simp)
  subst e9
  exact ⟨rfl, h.q9⟩
theorem RS.box (h : RS w p B P A bs c K u t l r0 vr r rest lit x b7 b8 b9 b10 b12 g7 g9 v W) (e : b12 = false) : W.heap[P]? = some (.cells #[u, t] 27) := by
  cases e10 : b10
  · exact (h.d e10).1.box
  · exact (h.k e10 e).2.2.1
theorem RS.lit7 (h : RS w p B P A bs c K u t l r0 vr r rest lit x false b8 b9 b10 b12 g7 g9 v W) (hB : B ≤ w.heap.size) : RS w p B P A bs c K u t l r0 vr r rest lit x true b8 b9 b10 b12 W.heap.size g9 v (W.alloc (.cells (ints lit).toArray 3)) := by
  have e8 : b8 = false := by cases b8; rfl; exact absurd (h.o8 rfl) (by simp)
  subst e8
  obtain ⟨rfl, rfl, rfl⟩ := h.q8
  have hb : Below W.heap.size W (W.alloc (.cells (ints lit).toArray 3)) := (Below.refl _ _).alloc (Nat.le_refl _) _
  exact { o8 := fun h => (nomatch h), o9 := fun h => (nomatch h), o10 := fun h => (nomatch h), o12 := fun h => (nomatch h), d := fun _ => ⟨(h.d rfl).1.lay hb, (h.d rfl).2.below hb⟩, l7 := fun _ _ => ⟨by have := (h.d rfl).1.size; omega, heap_alloc_new _ _⟩, h9 := fun h => (nomatch h), k := fun h => (nomatch h), f := fun h => (nomatch h) }
theorem RS.draw {x' : Int} (h : RS w p B P A bs c K u t l r0 vr r rest lit x true false b9 b10 b12 g7 g9 v W) (hpB : p < B) (hBP : B ≤ P) (hk : Kept (fun q => q = p) W W') (hC : Cur W' p A bs c (K + 2)) : RS w p B P A bs c K u t l r0 vr r rest lit x' true true b9 b10 b12 g7 g9 v W' := by
  obtain ⟨rfl, rfl, rfl⟩ := h.q8
  obtain ⟨h1, h2⟩ := h.l7 rfl rfl
  exact { o8 := fun _ => rfl, o9 := fun h => (nomatch h), o10 := fun h => (nomatch h), o12 := fun h => (nomatch h), d := fun _ => ⟨(h.d rfl).1.draw hpB hBP hk hC, (h.d rfl).2.keptG hk (fun q hq => by omega)⟩, l7 := fun _ _ => ⟨h1, (hk.block _ (Array.getElem?_eq_some_iff.1 h2).1 (by omega)).trans h2⟩, h9 := fun h => (nomatch h), k := fun h => (nomatch h), f := fun h => (nomatch h) }
theorem RS.build (h : RS w p B P A bs c K u t l r0 vr r rest lit x b7 true false b10 b12 g7 g9 v W) : RS w p B P A bs c K u t l r0 vr r rest lit x b7 true true b10 b12 g7 W.heap.size v (W.alloc (.cells #[.int .i64 x] 3)) := by
  obtain ⟨rfl, rfl⟩ := h.q9
  have e7 := h.o8 rfl
  subst e7
  obtain ⟨h1, h2⟩ := h.l7 rfl rfl
  have hb : Below W.heap.size W (W.alloc (.cells #[.int .i64 x] 3)) := (Below.refl _ _).alloc (Nat.le_refl _) _
  exact { o8 := fun _ => rfl, o9 := fun _ => rfl, o10 := fun h => (nomatch h), o12 := fun h => (nomatch h), d := fun _ => ⟨(h.d rfl).1.lay hb, (h.d rfl).2.below hb⟩, l7 := fun _ _ => ⟨h1, (hb.block _ (Array.getElem?_eq_some_iff.1 h2).1).trans h2⟩, h9 := fun _ _ => heap_alloc_new _ _, k := fun h => (nomatch h), f := fun h => (nomatch h) }
theorem RS.app {v' : Value} (h : RS w p B P A bs c K u t l r0 vr r rest lit x b7 true true false b12 g7 g9 v W) (hpB : p < B) (hdj : DJ (r0 :: vr)) (ho : W'.ownsRow B 3 1 v' (r.length + 1) (ints r ++ [.int .i64 x])) (hg : W.grownBy W' r0.ownBlock) : RS w p B P A bs c K u t l r0 vr r rest lit x b7 true true true b12 g7 g9 v' W' := by
  have e12 : b12 = false := by cases b12; rfl; exact absurd (h.o12 rfl) (by simp)
  subst e12
  obtain ⟨hL, hT⟩ := h.d rfl
  have hr0 := hT.2 0 r0 r rfl rfl
  have hk := kept_of_grown hg
  have e1 : (r ++ [x]).length = r.length + 1 := by simp
  have e2 : ints (r ++ [x]) = ints r ++ [.int .i64 x] := by simp [ints]
  refine { o8 := h.o8, o9 := fun _ => rfl, o10 := fun _ => rfl, o12 := fun h => (nomatch h), d := fun h => (nomatch h), l7 := fun _ h => (nomatch h), h9 := fun _ h => (nomatch h), f := fun h => (nomatch h), k := ?_ }
  intro _ _
  exact ⟨hL.k.trans (hk.mono fun b hb => .inr (hr0.lt b hb).1), hL.cur.kept hk (fun q hq => by have := (hr0.lt q hq).1; omega), (hk.block P (Array.getElem?_eq_some_iff.1 hL.box).1 (fun e => owns_type' hr0 hL.box (by decide) e)).trans hL.box, owns_kept hL.S hk (fun g hg e => owns_apart' hL.S hr0 (by decide) g hg e), owns_kept hT.1 hk (fun g hg e => owns_apart' hT.1 hr0 (by decide) g hg e),
      fun i v xs a b => owns_kept (hT.2 (i + 1) v xs (by simpa using a) (by simpa using b)) hk (fun g hg e => hdj 0 (i + 1) r0 v g (by omega) rfl (by simpa using a) e hg), by rw [e1, e2]; exact ho⟩
theorem RS.store {gu n cu : Nat} (h : RS w p B P A bs c K (.slice (some ⟨gu, 0, none⟩) n cu) t l r0 vr r rest lit x b7 b8 b9 true false g7 g9 v W) (hn : n = l.shows.length) (hnl : (r :: rest).length = n) (hpB : p < B) (hz : DSz ⟨(r ++ [x]) :: rest, l.steps⟩) : RS w p B P A bs c K (.slice (some ⟨gu, 0, none⟩) n cu) t l r0 vr r rest lit x b7 b8 b9 true true g7 g9 v (W.setCell ⟨gu, 0, none⟩ v) := by
  obtain ⟨h1, h2, h3, h4, h5, h6, h7⟩ := h.k rfl rfl
  subst hn
  have hK : Kept (fun q => q = gu) W (W.setCell ⟨gu, 0, none⟩ v) := (Kept.refl _ W).setCell (S := fun q => q = gu) (p := ⟨gu, 0, none⟩) rfl _
  have hgu := (h5.lt gu rfl).1
  have h8 := (h5.stored 0 v).1
  refine { o8 := h.o8, o9 := h.o9, o10 := h.o10, o12 := fun _ => rfl, d := fun h => (nomatch h), l7 := fun _ h => (nomatch h), h9 := fun _ h => (nomatch h), k := fun _ h => (nomatch h), f := ?_ }
  intro _
  have hT : LRows (W.setCell ⟨gu, 0, none⟩ v) B (.slice (some ⟨gu, 0, none⟩) l.shows.length cu) ((r ++ [x]) :: rest) := by
    refine ⟨v :: vr, by simpa [← hnl] using h8, fun i v' xs a b => ?_⟩
    cases i with
    | zero =>
      simp at a b
      subst a
      subst b
      exact owns_kept h7 hK (fun g hg e => owns_apart' h7 h5 (by decide) g hg (by rw [e]; rfl))
    | succ i =>
      have h9 := h6 i v' xs (by simpa using a) (by simpa using b)
      exact owns_kept h9 hK (fun g hg e => owns_apart' h9 h5 (by decide) g hg (by rw [e]; rfl))
  exact { k := h1.trans (hK.mono fun b hb => .inr (by omega)), cur := h2.kept hK (fun q hq => by omega), box := (hK.block P (Array.getElem?_eq_some_iff.1 h3).1 (fun e => owns_type' h5 h3 (by decide) (by rw [e]; rfl))).trans h3, T := hT, S := owns_kept h4 hK (fun g hg e => owns_apart' h4 h5 (by decide) g hg (by rw [e]; rfl)), z := hz }
end

end Go.Proofs.YtdgnhfhaaghoaaaGreatDoor
