/- Labelled systems: the formula that tells two states apart is one, the first state satisfies it, and the second one does not. Plain law. The reference's conjunction of formulas: walked. Plain parts of the reference's formula for two states; lists of rows that grow. l10Put on a row of triples, nil or not; what labelled's tail wants of a system that is being drawn. -/
import Derived.Test.YtdgnhfhaaghoaaaGreatDoorJ29
import Derived.Test.YtdgnhfhaaghoaaaGreatDoorProg
import Derived.Test.YtdgnhfhaaghoaaaGreatDoorJ15
import Derived.Test.YtdgnhfhaaghoaaaGreatDoorJ14
import Derived.Test.YtdgnhfhaaghoaaaGreatDoorJ27
import Derived.Test.YtdgnhfhaaghoaaaGreatDoorJ4
import Derived.Test.YtdgnhfhaaghoaaaGreatDoorJ26
import Derived.Test.YtdgnhfhaaghoaaaGreatDoorJ12
import Derived.Test.YtdgnhfhaaghoaaaGreatDoorJ3
import Derived.Lib.AppendZeros
import Derived.Test.YtdgnhfhaaghoaaaGreatDoorJ21
import Derived.Test.YtdgnhfhaaghoaaaGreatDoorJ0
import Derived.Test.YtdgnhfhaaghoaaaGreatDoorJ18
import Derived.Test.YtdgnhfhaaghoaaaGreatDoorJ19
import Derived.Test.YtdgnhfhaaghoaaaGreatDoorJ20
set_option linter.unusedSimpArgs false
set_option linter.unusedVariables false
namespace Go.Proofs.YtdgnhfhaaghoaaaGreatDoor

theorem last_stable (l : Lab) (h0 : 1 ≤ l.shows.length) : partsL l (l.shows.length + 1) = lastL l := by
  by_cases h : ∃ m, m ≤ l.shows.length ∧ partsL l (m + 1) = partsL l m
  · obtain ⟨m, hm, e⟩ := h
    rw [parts_stay l e _ (by omega)]
    exact (parts_stay l e _ hm).symm
  · have := rounds_le l h0 (k := l.shows.length) fun j hj e => h ⟨j, by omega, e⟩
    omega

/-- What a well-formed labelled system gives. -/
structure GoodL (l : Lab) : Prop where
  some_ : 1 ≤ l.shows.length
  steps : ∀ s ∈ l.steps, ∃ i j : Nat, s.1 = (i : Int) ∧ s.2.2 = (j : Int) ∧ i < l.shows.length ∧ j < l.shows.length
  acts : ∀ s ∈ l.steps, 0 ≤ s.2.1 ∧ s.2.1 < 8
  marks : ∀ i, i < l.shows.length → (l.shows.getD i []).Pairwise (· < ·) ∧ ∀ x ∈ l.shows.getD i [], 0 ≤ x ∧ x < 8

end Go.Proofs.YtdgnhfhaaghoaaaGreatDoor

set_option linter.unusedVariables false
namespace Go.Proofs.YtdgnhfhaaghoaaaGreatDoor
open Go.RowKit

/-- Rows behind an address, all of them in blocks below N. -/
def Lists (w : World) (N : Nat) (A : Option Addr) (xss : List (List Int)) : Prop :=
  ∃ vs : List Value, vs.length = xss.length ∧ Cells w A vs ∧ ∀ (i : Nat) v xs, vs[i]? = some v → xss[i]? = some xs → w.ownsRow 0 3 1 v xs.length (ints xs) ∧ ∀ q, v.ownBlock = some q → q < N
theorem Lists.below {w w' : World} {N : Nat} {A : Option Addr} {xss : List (List Int)} (h : Lists w N A xss) (hb : Below w.heap.size w w') : Lists w' N A xss := by
  obtain ⟨vs, h1, h2, h3⟩ := h
  exact ⟨vs, h1, h2.below hb, fun i v xs a b => ⟨owns_below (h3 i v xs a b).1 hb (Nat.le_refl _), (h3 i v xs a b).2⟩⟩
theorem Lists.tail {w : World} {N b o : Nat} {x : List Int} {xss : List (List Int)} (h : Lists w N (some ⟨b, o, none⟩) (x :: xss)) : Lists w N (some ⟨b, o + 1, none⟩) xss := by
  obtain ⟨vs, h1, h2, h3⟩ := h
  cases vs with
  | nil => simp at h1
  | cons v vs =>
    refine ⟨vs, by simpa using h1, fun j u hj => ?_, fun i u xs a b => h3 (i + 1) u xs (by simpa using a) (by simpa using b)⟩
    obtain ⟨b', o', e, hc⟩ := h2 (j + 1) u (by simpa using hj)
    cases e
    refine ⟨b, o + 1, rfl, ?_⟩
    rw [show o + 1 + j = o + (j + 1) by omega]
    exact hc
theorem Lists.head {w : World} {N : Nat} {A : Option Addr} {x : List Int} {xss : List (List Int)} (h : Lists w N A (x :: xss)) : ∃ b o Ax cx, A = some ⟨b, o, none⟩ ∧ w.cell? ⟨b, o, none⟩ = some (.slice Ax x.length cx) ∧ w.ownsRow 0 3 1 (.slice Ax x.length cx) x.length (ints x) ∧ ∀ q, (Value.slice Ax x.length cx).ownBlock = some q → q < N := by
  obtain ⟨vs, h1, h2, h3⟩ := h
  cases vs with
  | nil => simp at h1
  | cons v vs =>
    obtain ⟨b, o, e, hc⟩ := h2 0 v rfl
    obtain ⟨h4, h5⟩ := h3 0 v x rfl rfl
    obtain ⟨Ax, cx, rfl, h4⟩ := owns_form h4
    exact ⟨b, o, Ax, cx, e, hc, h4, h5⟩

/-- The facts of the region that puts a conjunction together: the row [3] (b0), the first formula behind it (b4), the others' conjunction (b7), all of them (b8). -/
structure AF (w : World) (N : Nat) (x G : List Int) (b0 b4 b7 b8 : Bool) (bb : Nat) (v1 r v2 : Value) (W : World) : Prop where
  o1 : b4 = true → b0 = true
  o2 : b8 = true → b4 = true ∧ b7 = true
  z : Below w.heap.size w W
  h0 : b0 = true → b4 = false → W.ownsRow w.heap.size 3 1 (.slice (some ⟨bb, 0, none⟩) 1 1) 1 [.int .i64 3]
  h4 : b4 = true → b8 = false → W.ownsRow w.heap.size 3 1 v1 (3 :: x).length (ints (3 :: x))
  h7 : b7 = true → b8 = false → W.ownsRow 0 3 1 r G.length (ints G)
  hd : b0 = true → b4 = false → b7 = true → r.ownBlock ≠ some bb
  h8 : b8 = true → W.ownsRow w.heap.size 3 1 v2 (3 :: (x ++ G)).length (ints (3 :: (x ++ G)))

section
variable {w W W' : World} {N : Nat} {x G : List Int} {b0 b4 b7 b8 : Bool} {bb : Nat} {v1 r v2 : Value}
theorem AF.start (bb : Nat) (v1 r v2 : Value) : AF w N x G false false false false bb v1 r v2 w.drew :=
  { o1 := fun h => (nomatch h), o2 := fun h => (nomatch h), z := (Below.refl _ _).drew, h0 := fun h => (nomatch h), h4 := fun h => (nomatch h), h7 := fun h => (nomatch h), hd := fun h => (nomatch h), h8 := fun h => (nomatch h) }
theorem owns_lt {w : World} {B : Nat} {e : TypeId} {s : Nat} {v : Value} {n : Nat} {xs : List Value} (h : w.ownsRow B e s v n xs) : ∀ q, v.ownBlock = some q → q < w.heap.size := fun q hq => (h.lt q hq).2
theorem AF.build (h : AF w N x G false b4 b7 b8 bb v1 r v2 W) : AF w N x G true b4 b7 b8 W.heap.size v1 r v2 (W.alloc (.cells #[.int .i64 3] 3)) := by
  have e4 : b4 = false := by cases b4; rfl; exact absurd (h.o1 rfl) (by simp)
  have e8 : b8 = false := by cases b8; rfl; exact absurd (h.o2 rfl).1 (by simp [e4])
  subst e4 e8
  have hb : Below W.heap.size W (W.alloc (.cells #[.int .i64 3] 3)) := (Below.refl _ _).alloc (Nat.le_refl _) _
  exact { o1 := fun h => (nomatch h), o2 := fun h => (nomatch h), z := h.z.trans (hb.mono h.z.size), h0 := fun _ _ => owns_mono (ownsRow_lit (n := 1) (xs := [.int .i64 3]) (heap_alloc_new _ _) rfl (by unfold maxLen; omega)) h.z.size, h4 := fun h => (nomatch h), h7 := fun h1 h2 => owns_below (h.h7 h1 h2) hb (Nat.le_refl _), hd := fun _ _ h7 e => by have := owns_lt (h.h7 h7 rfl) _ e; omega, h8 := fun h => (nomatch h) }
theorem AF.app1 {v1' : Value} (h : AF w N x G true false b7 b8 bb v1 r v2 W) (ho : W'.ownsRow w.heap.size 3 1 v1' (1 + x.length) ([.int .i64 3] ++ ints x)) (hk : Kept (fun q => (Value.slice (some ⟨bb, 0, none⟩) 1 1).ownBlock = some q) W W') : AF w N x G true true b7 b8 bb v1' r v2 W' := by
  have e8 : b8 = false := by cases b8; rfl; exact absurd (h.o2 rfl).1 (by simp)
  subst e8
  have hlt := h.h0 rfl rfl
  have e1 : (3 :: x).length = 1 + x.length := by simp; omega
  have e2 : ints (3 :: x) = [.int .i64 3] ++ ints x := by simp [ints]
  exact { o1 := fun _ => rfl, o2 := fun h => (nomatch h), z := below_kept h.z hk (fun q hq => (hlt.lt q hq).1) h.z.size, h0 := fun _ h => (nomatch h), h4 := fun _ _ => by rw [e1, e2]; exact ho, h7 := fun h1 h2 => owns_kept (h.h7 h1 h2) hk (fun g hg e => h.hd rfl rfl h1 (by rw [hg]; exact e.symm ▸ rfl)), hd := fun _ h => (nomatch h), h8 := fun h => (nomatch h) }
theorem AF.app2 {v2' : Value} (h : AF w N x G b0 true true false bb v1 r v2 W) (ho : W'.ownsRow w.heap.size 3 1 v2' ((3 :: x).length + G.length) (ints (3 :: x) ++ ints G)) (hk : Kept (fun q => v1.ownBlock = some q) W W') : AF w N x G b0 true true true bb v1 r v2' W' := by
  have hlt := h.h4 rfl rfl
  have e1 : (3 :: (x ++ G)).length = (3 :: x).length + G.length := by simp; omega
  have e2 : ints (3 :: (x ++ G)) = ints (3 :: x) ++ ints G := by simp [ints]
  exact { o1 := fun _ => h.o1 rfl, o2 := fun _ => ⟨rfl, rfl⟩, z := below_kept h.z hk (fun q hq => (hlt.lt q hq).1) h.z.size, h0 := fun _ h => (nomatch h), h4 := fun _ h => (nomatch h), h7 := fun _ h => (nomatch h), hd := fun _ h => (nomatch h), h8 := fun _ => by rw [e1, e2]; exact ho }
end

end Go.Proofs.YtdgnhfhaaghoaaaGreatDoor

set_option linter.unusedVariables false
namespace Go.Proofs.YtdgnhfhaaghoaaaGreatDoor
open Go.RowKit

/-- A list of rows, all of them new. -/
def LRows (w : World) (B : Nat) (u : Value) (xss : List (List Int)) : Prop :=
  ∃ vs : List Value, w.ownsRow B 30 1 u xss.length vs ∧ ∀ (i : Nat) v xs, vs[i]? = some v → xss[i]? = some xs → w.ownsRow B 3 1 v xs.length (ints xs)
section
variable {w w1 w2 w' : World} {B : Nat} {u u2 r : Value} {l : List (List Int)} {x : List Int}
theorem LRows.below {B2 : Nat} (h : LRows w B u l) (hb : Below B2 w w') (hB : w.heap.size ≤ B2) : LRows w' B u l := by
  obtain ⟨vs, h1, h2⟩ := h
  exact ⟨vs, owns_below h1 hb hB, fun i v xs a b => owns_below (h2 i v xs a b) hb hB⟩
theorem LRows.nil (h : w.ownsRow B 30 1 u 0 []) : LRows w B u [] := ⟨[], h, fun i v xs h => by simp at h⟩
theorem LRows.push {vs : List Value} (h1 : w1.ownsRow B 30 1 u l.length vs) (h2 : ∀ (i : Nat) v xs, vs[i]? = some v → l[i]? = some xs → w1.ownsRow B 3 1 v xs.length (ints xs))
    (hr : w1.ownsRow B 3 1 r x.length (ints x)) (ho : w2.ownsRow B 30 1 u2 (l.length + 1) (vs ++ [r])) (hk : Kept (fun q => u.ownBlock = some q) w1 w2) : LRows w2 B u2 (l ++ [x]) := by
  have hvl : vs.length = l.length := by have := h1.1; omega
  refine ⟨vs ++ [r], by rw [List.length_append]; exact ho, fun i v xs hv hx => ?_⟩
  rcases Nat.lt_trichotomy i vs.length with hi | hi | hi
  · rw [List.getElem?_append_left hi] at hv
    rw [List.getElem?_append_left (by omega)] at hx
    have ha := h2 i v xs hv hx
    exact owns_kept ha hk (fun g hgv => owns_apart' ha h1 (by decide) g hgv)
  · subst hi
    rw [List.getElem?_append_right (Nat.le_refl _), Nat.sub_self] at hv
    rw [hvl, List.getElem?_append_right (Nat.le_refl _), Nat.sub_self] at hx
    simp at hv hx
    subst hv
    subst hx
    exact owns_kept hr hk (fun g hgv => owns_apart' hr h1 (by decide) g hgv)
  · rw [List.getElem?_eq_none (by simp; omega)] at hv
    cases hv
theorem LRows.lists (h : LRows w B u l) : ∃ A c, u = .slice A l.length c ∧ l.length ≤ c ∧ Lists w w.heap.size A l := by
  obtain ⟨vs, h1, h2⟩ := h
  rcases h1.2 with ⟨e, e2⟩ | ⟨g, cap, cur, rfl, _, _, hc, _⟩
  · have hl : l = [] := List.length_eq_zero_iff.1 e2
    subst hl
    have hv : vs = [] := List.length_eq_zero_iff.1 (by have := h1.1; simpa using this)
    subst hv
    exact ⟨none, 0, e, Nat.le_refl _, [], rfl, Cells.nil _ _, fun i v xs h => by simp at h⟩
  · refine ⟨some ⟨g, 0, none⟩, cap, rfl, hc, vs, by have := h1.1; omega, Cells.of_owns h1, fun i v xs a b => ⟨owns_mono (h2 i v xs a b) (Nat.zero_le _), fun q hq => ((h2 i v xs a b).lt q hq).2⟩⟩
end

section
variable {wr W W' : World} {a : Int} {G : List Int} {b2 b4 b5 : Bool} {bb : Nat} {r v : Value}
end

end Go.Proofs.YtdgnhfhaaghoaaaGreatDoor

set_option linter.unusedVariables false
namespace Go.Proofs.YtdgnhfhaaghoaaaGreatDoor
open Go.RowKit

theorem l10PutV_any (B : Nat) (v : Value) (l : List I3) (x : I3) (w : World) (hn : l.length ≤ 1000000) (hv : w.ownsRow B 103 3 v l.length (l.flatMap tri)) (hB : B ≤ w.heap.size) :
    Calls Tryz.prog 92 #[v, .agg #[.int .i64 x.1, .int .i64 x.2.1, .int .i64 x.2.2]] w fun e w' => ∃ r, e = .returned r ∧ w'.ownsRow B 103 3 r (putG l x).length ((putG l x).flatMap tri) ∧ Below w.heap.size w w' := by
  rcases hv.2 with ⟨rfl, h0⟩ | ⟨g, cc, cur, rfl, _, _, hc, _⟩
  · have hl : l = [] := by cases l with | nil => rfl | cons a l => simp at h0
    subst hl
    refine (l10PutNil_any x w).mono ?_
    rintro e w' ⟨r, rfl, hr, hb⟩
    have e1 : putG [] x = [x] := by simp [putG]
    refine ⟨r, rfl, ?_, hb⟩
    rw [e1]
    simpa using owns_mono hr hB
  · refine (l10PutG_any g cc l x w hn hc (Cells.of_owns hv)).mono ?_
    rintro e w' ⟨r, rfl, hr, hb⟩
    exact ⟨r, rfl, put_ownG hr hb hv hB, hb⟩

theorem ra3_ownsD {w : World} {B : Nat} {v : Value} {l : List I3} (h : w.ownsRow B 103 3 v l.length (l.flatMap tri)) (hn : l.length ≤ maxLen) : RA3 w v l := by
  obtain ⟨A, c, rfl, h⟩ := owns_form h
  exact ⟨A, c, rfl, hn, Cells.of_owns h⟩
/-- How large a drawn system is. -/
structure DSz (l : Lab) : Prop where
  a : l.shows.length ≤ 60
  b : ∀ xs ∈ l.shows, xs.length ≤ 10
  c : l.steps.length ≤ 100
theorem Kept.shrink {S T : Nat → Prop} {w w' : World} (h : Kept S w w') (hT : ∀ q, q < w.heap.size → S q → T q) : Kept T w w' :=
  ⟨h.os, h.tape, h.output, h.size, fun b hb hn => h.block b hb (fun e => hn (hT b hb e))⟩
theorem LRows.keptG {w w' : World} {S : Nat → Prop} {B : Nat} {u : Value} {l : List (List Int)} (h : LRows w B u l) (hk : Kept S w w') (hS : ∀ q, S q → q < B) : LRows w' B u l := by
  obtain ⟨vs, a, b⟩ := h
  exact ⟨vs, owns_keptG a hk hS, fun i v xs x y => owns_keptG (b i v xs x y) hk hS⟩
theorem LRows.low {w : World} {B C : Nat} {u : Value} {l : List (List Int)} (h : LRows w C u l) (hB : B ≤ C) : LRows w B u l := by
  obtain ⟨vs, a, b⟩ := h
  exact ⟨vs, owns_mono a hB, fun i v xs x y => owns_mono (b i v xs x y) hB⟩
/-- The system in the box P at the end: its rows may lie one in another. -/
structure LX (w : World) (p B P : Nat) (A : Option Addr) (bs : List Int) (c K : Nat) (u t : Value) (l : Lab) (W : World) : Prop where
  k : Kept (fun q => q = p ∨ B ≤ q) w W
  cur : Cur W p A bs c K
  box : W.heap[P]? = some (.cells #[u, t] 27)
  T : LRows W B u l.shows
  S : W.ownsRow B 103 3 t l.steps.length (l.steps.flatMap tri)
  z : DSz l
section
variable {w W W' : World} {p B P c K : Nat} {A : Option Addr} {bs : List Int} {u t : Value} {l : Lab}
theorem LD.rlab (h : LD w p B P A bs c K u t l W) (hs : SmallLab l) : RLab W (.agg #[u, t]) l :=
  ⟨u, t, rfl, h.T.rss hs.1 hs.2.2, ra3_ownsD h.S (by have := hs.2.1; unfold maxLen; omega)⟩
theorem LD.lx {K' : Nat} (h : LD w p B P A bs c K u t l W) (hK : K ≤ K') (hz : DSz l) : LX w p B P A bs c K' u t l W := by
  obtain ⟨vs, a, b, _⟩ := h.T
  exact { k := h.k, cur := h.cur.mono hK, box := h.box, T := ⟨vs, a, b⟩, S := h.S, z := hz }
theorem LX.formU (h : LX w p B P A bs c K u t l W) : ∃ AU cU, u = .slice AU l.shows.length cU := by
  obtain ⟨vs, a, _⟩ := h.T
  obtain ⟨AU, cU, e, _⟩ := owns_form a
  exact ⟨AU, cU, e⟩
theorem LX.formT (h : LX w p B P A bs c K u t l W) : ∃ AT cT, t = .slice AT l.steps.length cT := by
  obtain ⟨AT, cT, e, _⟩ := owns_form h.S
  exact ⟨AT, cT, e⟩
/-- How long the table in the box is. -/
def lenBox (P : Nat) (w : World) : Nat :=
  match w.heap[P]? with
  | some (.cells cs _ _) => (match (cs.getD 0 undef : Value) with | Value.slice _ n _ => n | _ => 0)
  | _ => 0
theorem LD.len {AU : Option Addr} {n cU : Nat} (h : LD w p B P A bs c K (.slice AU n cU) t l W) : lenBox P W = n := by
  simp [lenBox, h.box]
theorem LD.both {v v2 : Value} {rows : List (List Int)} {ss : List I3} (h : LD w p B P A bs c K u t l W) (hpB : p < B) (hBP : B ≤ P) (hT : TRows W B v rows) (hS : W.ownsRow B 103 3 v2 ss.length (ss.flatMap tri)) :
    LD w p B P A bs c K v v2 ⟨rows, ss⟩ ((W.setCell ⟨P, 0, none⟩ v).setCell ⟨P, 1, none⟩ v2) := by
  have hk : ∀ k, k < W.heap.size → k ≠ P → (W.setCell ⟨P, 0, none⟩ v).heap[k]? = W.heap[k]? := fun k _ h2 => heap_setCell_other _ _ _ _ h2
  exact (h.shows hpB hBP hT).steps hpB hBP (owns_but hS hk h.box (by decide))
theorem LD.formU (h : LD w p B P A bs c K u t l W) : ∃ AU cU, u = .slice AU l.shows.length cU := by
  obtain ⟨vs, a, _⟩ := h.T
  obtain ⟨AU, cU, e, _⟩ := owns_form a
  exact ⟨AU, cU, e⟩
theorem LD.formT (h : LD w p B P A bs c K u t l W) : ∃ AT cT, t = .slice AT l.steps.length cT := by
  obtain ⟨AT, cT, e, _⟩ := owns_form h.S
  exact ⟨AT, cT, e⟩
end

end Go.Proofs.YtdgnhfhaaghoaaaGreatDoor
