/- A drawn labelled system, as what reads it wants it. Labelled systems joined: the reference's UnionOf walked. Labelled systems: bisimilarity is the greatest bisimulation; it is finer than weak bisimilarity and than simulation. Plain law. Labelled systems: bisimilar states are simulated by each other; unions; the quotient has no two bisimilar states, and each state is bisimilar to its own of the quotient. Plain law. Tables of truth values: read, written; l11Table walked. -/
import Derived.Test.YtdgnhfhaaghoaaaGreatDoorProg
import Derived.Test.YtdgnhfhaaghoaaaGreatDoorJ29
import Derived.Test.YtdgnhfhaaghoaaaGreatDoorJ2
import Derived.Test.YtdgnhfhaaghoaaaGreatDoorJ23
import Derived.Test.YtdgnhfhaaghoaaaGreatDoorJ18
import Derived.Test.YtdgnhfhaaghoaaaGreatDoorJ27
import Derived.Test.YtdgnhfhaaghoaaaGreatDoorJ26
import Derived.Test.YtdgnhfhaaghoaaaGreatDoorJ9
import Derived.Test.YtdgnhfhaaghoaaaGreatDoorJ3
set_option linter.unusedSimpArgs false
set_option linter.unusedVariables false
namespace Go.Proofs.YtdgnhfhaaghoaaaGreatDoor
open Go.RowKit

theorem DSz.small {l : Lab} (h : DSz l) : SmallLab l := ⟨by have := h.a; omega, by have := h.c; omega, fun xs hx => by have := h.b xs hx; omega⟩
theorem LRows.rss {w : World} {B : Nat} {u : Value} {l : List (List Int)} (h : LRows w B u l) (hn : l.length ≤ 16777216) (hs : ∀ xs ∈ l, xs.length ≤ 16777216) : RSS w u l := by
  obtain ⟨vs, a, b⟩ := h
  obtain ⟨A, c, rfl, _⟩ := owns_form a
  refine ⟨A, c, vs, rfl, by unfold maxLen; omega, by have := a.1; omega, Cells.of_owns a, fun i v xs hv hx => ?_⟩
  have h1 := b i v xs hv hx
  obtain ⟨A', c', rfl, _⟩ := owns_form h1
  have := hs xs (List.mem_of_getElem? hx)
  exact ⟨A', c', rfl, by unfold maxLen; omega, Cells.of_owns h1⟩
/-- A drawn system is one that can be read, and is small. -/
theorem DLab.rlab {w w' : World} {u t : Value} (h : DLab w w' u t) : ∃ l : Lab, SmallLab l ∧ DSz l ∧ RLab w' (.agg #[u, t]) l := by
  obtain ⟨l, hz, hT, hS⟩ := h
  refine ⟨l, hz.small, hz, u, t, rfl, hT.rss (by have := hz.a; omega) (fun xs hx => by have := hz.b xs hx; omega), ?_⟩
  obtain ⟨A, c, rfl, _⟩ := owns_form hS
  exact ⟨A, c, rfl, by have := hz.c; unfold maxLen; omega, Cells.of_owns hS⟩
theorem DLab.low {w w0 w' : World} {u t : Value} (h : DLab w0 w' u t) (hs : w.heap.size ≤ w0.heap.size) : DLab w w' u t := by
  obtain ⟨l, hz, hT, hS⟩ := h
  exact ⟨l, hz, hT.low hs, owns_mono hS hs⟩
theorem DLab.kept {w w1 w2 : World} {u t : Value} {S : Nat → Prop} (h : DLab w w1 u t) (hk : Kept S w1 w2) (hS : ∀ q, S q → q < w.heap.size) : DLab w w2 u t := by
  obtain ⟨l, hz, hT, hO⟩ := h
  exact ⟨l, hz, hT.keptG hk hS, owns_keptG hO hk hS⟩
theorem DLab.form {w w1 : World} {u t : Value} (h : DLab w w1 u t) : ∃ A n c B m d, u = .slice A n c ∧ t = .slice B m d := by
  obtain ⟨l, hz, ⟨vs, a, _⟩, hO⟩ := h
  obtain ⟨A, c, rfl, _⟩ := owns_form a
  obtain ⟨B, d, rfl, _⟩ := owns_form hO
  exact ⟨A, _, c, B, _, d, rfl, rfl⟩
/-- A labelled system stored into a box. -/
theorem box_put {W : World} {P : Nat} {a b : Value} {ty : TypeId} (u t : Value) (h : W.heap[P]? = some (.cells #[a, b] ty)) :
    ((W.setCell ⟨P, 0, none⟩ u).setCell ⟨P, 1, none⟩ t).heap[P]? = some (.cells #[u, t] ty) ∧ Kept (fun q => q = P) W ((W.setCell ⟨P, 0, none⟩ u).setCell ⟨P, 1, none⟩ t) :=
  ⟨heap_setCell_same (W.setCell ⟨P, 0, none⟩ u) P 1 _ _ t (heap_setCell_same W P 0 _ _ u h), ((Kept.refl (fun q => q = P) W).setCell (S := fun q => q = P) (p := ⟨P, 0, none⟩) rfl u).setCell (S := fun q => q = P) (p := ⟨P, 1, none⟩) rfl t⟩

end Go.Proofs.YtdgnhfhaaghoaaaGreatDoor

set_option linter.unusedVariables false
namespace Go.Proofs.YtdgnhfhaaghoaaaGreatDoor
open Go.RowKit

theorem OwnLab.mono {w : World} {S T : Nat → Prop} {v : Value} {l : Lab} (h : OwnLab w S v l) (hs : ∀ b, S b → T b) : OwnLab w T v l := by
  obtain ⟨u, t, S1, S2, a1, a2, a3, a4, a5, a6⟩ := h
  exact ⟨u, t, S1, S2, a1, a2, a3, fun b hb => hs b (a4 b hb), fun b hb => hs b (a5 b hb), a6⟩

theorem OwnLab.formU {w : World} {S : Nat → Prop} {v : Value} {a b : Lab} (h : OwnLab w S v (uniL a b)) : ∃ B1 d1 B2 d2, v = .agg #[.slice B1 (a.shows.length + b.shows.length) d1, .slice B2 (a.steps.length + b.steps.length) d2] := by
  obtain ⟨sv, tv, S1, S2, rfl, h1, h2, _⟩ := h
  obtain ⟨A, c, rfl⟩ := h1.form
  obtain ⟨B, d, rfl, _⟩ := h2
  exact ⟨A, c, B, d, by simp [uniL]⟩

end Go.Proofs.YtdgnhfhaaghoaaaGreatDoor

set_option linter.unusedVariables false
namespace Go.Proofs.YtdgnhfhaaghoaaaGreatDoor

/-- States that are in one part in the last round. -/
def bis (l : Lab) (i j : Nat) : Prop := (lastL l).getD i 0 = (lastL l).getD j 0

theorem bis_parts {l : Lab} {i j : Nat} (hi : i < l.shows.length) (hj : j < l.shows.length) (h : bis l i j) : ∀ m, m ≤ l.shows.length → (partsL l m).getD i 0 = (partsL l m).getD j 0 := by
  have : ∀ d m, m + d = l.shows.length → (partsL l m).getD i 0 = (partsL l m).getD j 0 := by
    intro d
    induction d with
    | zero => intro m e; obtain rfl : m = l.shows.length := by omega
              exact h
    | succ d ih => intro m e; exact parts_finer l m hi hj (ih (m + 1) (by omega))
  exact fun m hm => this (l.shows.length - m) m (by omega)
theorem bis_shows {l : Lab} {i j : Nat} (hi : i < l.shows.length) (hj : j < l.shows.length) (h : bis l i j) : l.shows.getD i [] = l.shows.getD j [] := by
  have : showB l i j = true := (parts_iff l 0 hi hj).1 (bis_parts hi hj h 0 (Nat.zero_le _))
  simpa [showB] using this
theorem bis_next {l : Lab} (hl : GoodL l) {i j : Nat} (hi : i < l.shows.length) (hj : j < l.shows.length) (h : bis l i j) {s : I3} (hs : s ∈ l.steps) (e : s.1 = (i : Int)) : ∃ t ∈ l.steps, t.1 = (j : Int) ∧ t.2.1 = s.2.1 ∧ bis l t.2.2.toNat s.2.2.toNat := by
  have h1 : sigB l.steps (lastL l) i j = true := by
    have : (partsL l (l.shows.length + 1)).getD i 0 = (partsL l (l.shows.length + 1)).getD j 0 := by rw [last_stable l hl.some_]; exact h
    exact (parts_iff l (l.shows.length + 1) hi hj).1 this
  exact (nextB_iff.1 (sigB_iff.1 h1).2.1) s hs e
theorem bis_symm {l : Lab} {i j : Nat} (h : bis l i j) : bis l j i := Eq.symm h
/-- Each bisimulation is within it. -/
theorem bis_great {l : Lab} (hl : GoodL l) {R : Nat → Nat → Prop} (hR : ∀ i j, R i j → i < l.shows.length ∧ j < l.shows.length ∧ l.shows.getD i [] = l.shows.getD j [] ∧
    (∀ s ∈ l.steps, s.1 = (i : Int) → ∃ t ∈ l.steps, t.1 = (j : Int) ∧ t.2.1 = s.2.1 ∧ R s.2.2.toNat t.2.2.toNat) ∧
    (∀ t ∈ l.steps, t.1 = (j : Int) → ∃ s ∈ l.steps, s.1 = (i : Int) ∧ s.2.1 = t.2.1 ∧ R s.2.2.toNat t.2.2.toNat)) : ∀ i j, R i j → bis l i j := by
  have : ∀ m i j, R i j → (partsL l m).getD i 0 = (partsL l m).getD j 0 := by
    intro m
    induction m with
    | zero =>
      intro i j h
      obtain ⟨hi, hj, hsh, _⟩ := hR i j h
      rw [parts_iff l 0 hi hj]
      show showB l i j = true
      simp only [showB, beq_iff_eq]
      exact hsh
    | succ m ih =>
      intro i j h
      obtain ⟨hi, hj, _, h1, h2⟩ := hR i j h
      rw [parts_iff l (m + 1) hi hj]
      show sigB l.steps (partsL l m) i j = true
      rw [sigB_iff, nextB_iff, nextB_iff]
      refine ⟨ih i j h, fun s hs e => ?_, fun t ht e => ?_⟩
      · obtain ⟨t, ht, t1, t2, t3⟩ := h1 s hs e
        exact ⟨t, ht, t1, t2, (ih _ _ t3).symm⟩
      · obtain ⟨s, hs, s1, s2, s3⟩ := h2 t ht e
        exact ⟨s, hs, s1, s2, ih _ _ s3⟩
  exact this _

/-- Silent ways of bisimilar states lead to bisimilar states. -/
theorem bis_ways {l : Lab} (hl : GoodL l) {i j : Nat} (hi : i < l.shows.length) (hj : j < l.shows.length) (h : bis l i j) : ∀ x ∈ waysR l.shows.length l.steps i, ∃ p q : Nat, x = (p : Int) ∧ p < l.shows.length ∧ q < l.shows.length ∧ (q : Int) ∈ waysR l.shows.length l.steps j ∧ bis l p q := by
  have hn : StepsN l.shows.length l.steps := hl.steps
  refine (ways_is hn hi).2.2 (fun x => ∃ p q : Nat, x = (p : Int) ∧ p < l.shows.length ∧ q < l.shows.length ∧ (q : Int) ∈ waysR l.shows.length l.steps j ∧ bis l p q) ⟨i, j, rfl, hi, hj, (ways_is hn hj).1, h⟩ ?_
  rintro s hs ⟨p, q, e, hp, hq, hm, hb⟩
  obtain ⟨hs, ha⟩ := silS_mem.1 hs
  obtain ⟨t, ht, t1, t2, t3⟩ := bis_next hl hp hq hb hs e
  obtain ⟨a, b, _, hb1, _, hbn⟩ := hl.steps s hs
  obtain ⟨c, d, _, hd1, _, hdn⟩ := hl.steps t ht
  have e1 : s.2.2.toNat = b := by omega
  have e2 : t.2.2.toNat = d := by omega
  rw [e1, e2] at t3
  refine ⟨b, d, hb1, hbn, hdn, ?_, bis_symm t3⟩
  rw [← hd1]
  exact (ways_is hn hj).2.1 t (silS_mem.2 ⟨ht, t2.trans ha⟩) (by rw [t1]; exact hm)

theorem satL_show {l : Lab} {i : Nat} (hi : i < l.shows.length) : (satL l).shows.getD i [] = progShow l.shows.length l.shows l.steps i := by
  simp [satL, List.getD, hi]
theorem progShow_mem {l : Lab} {i : Nat} {x : Int} : x ∈ progShow l.shows.length l.shows l.steps i ↔ ∃ t ∈ waysR l.shows.length l.steps i, x ∈ l.shows.getD t.toNat [] := by
  have := (unions_fold l.shows (waysR l.shows.length l.steps i) [] List.Pairwise.nil).2 x
  unfold progShow
  rw [this]
  simp
theorem satL_good {l : Lab} (hl : GoodL l) : GoodL (satL l) := by
  obtain ⟨h1, h2⟩ := satL_steps (l := l) hl.steps hl.acts
  refine ⟨by rw [satL_len]; exact hl.some_, h1, h2, fun i hi => ?_⟩
  rw [satL_len] at hi
  rw [satL_show hi]
  refine ⟨(unions_fold l.shows (waysR l.shows.length l.steps i) [] List.Pairwise.nil).1, fun x hx => ?_⟩
  obtain ⟨t, ht, hx⟩ := progShow_mem.1 hx
  obtain ⟨j, rfl, hj⟩ := ways_inN hl.steps hi t ht
  rw [Int.toNat_natCast] at hx
  exact (hl.marks j hj).2 x hx
theorem satL_mem {l : Lab} {x : I3} : x ∈ (satL l).steps ↔ ∃ i, i < l.shows.length ∧ ∃ t ∈ waysR l.shows.length l.steps i, x = ((i : Int), 0, t) ∨ ∃ s ∈ l.steps, s.1 = t ∧ s.2.1 ≠ 0 ∧ ∃ e ∈ waysR l.shows.length l.steps s.2.2.toNat, x = ((i : Int), s.2.1, e) := by
  show x ∈ sortT (progSat l.shows.length l.steps) ↔ _
  rw [sortT_mem]
  unfold progSat
  simp only [List.mem_flatMap, List.mem_map, List.mem_filter, List.mem_range, List.mem_cons]
  constructor
  · rintro ⟨i, hi, t, ht, h | ⟨s, ⟨hs, h1⟩, e, he, rfl⟩⟩
    · exact ⟨i, hi, t, ht, .inl h⟩
    · simp only [Bool.and_eq_true, beq_iff_eq, Bool.not_eq_true', beq_eq_false_iff_ne, ne_eq] at h1
      exact ⟨i, hi, t, ht, .inr ⟨s, hs, h1.1, h1.2, e, he, rfl⟩⟩
  · rintro ⟨i, hi, t, ht, h | ⟨s, hs, h1, h2, e, he, rfl⟩⟩
    · exact ⟨i, hi, t, ht, .inl h⟩
    · exact ⟨i, hi, t, ht, .inr ⟨s, ⟨hs, by simp [h1, h2]⟩, e, he, rfl⟩⟩

/-- Bisimilar states are weakly bisimilar. -/
theorem bis_weak {l : Lab} (hl : GoodL l) {i j : Nat} (hi : i < l.shows.length) (hj : j < l.shows.length) (h : bis l i j) : bis (satL l) i j := by
  have half : ∀ i j : Nat, i < l.shows.length → j < l.shows.length → bis l i j → ∀ s ∈ (satL l).steps, s.1 = (i : Int) → ∃ t ∈ (satL l).steps, t.1 = (j : Int) ∧ t.2.1 = s.2.1 ∧ (s.2.2.toNat < l.shows.length ∧ t.2.2.toNat < l.shows.length ∧ bis l s.2.2.toNat t.2.2.toNat) := by
    intro i j hi hj h s hs e
    obtain ⟨k, hk, t, ht, h1 | ⟨u, hu, u1, u2, x, hx, h1⟩⟩ := satL_mem.1 hs
    · subst h1
      obtain rfl : k = i := by have e : (k : Int) = (i : Int) := e; omega
      obtain ⟨p, q, rfl, hp, hq, hm, hb⟩ := bis_ways hl hk hj h t ht
      exact ⟨((j : Int), 0, (q : Int)), satL_mem.2 ⟨j, hj, (q : Int), hm, .inl rfl⟩, rfl, rfl, by simpa using hp, by simpa using hq, by simpa using hb⟩
    · subst h1
      obtain rfl : k = i := by have e : (k : Int) = (i : Int) := e; omega
      obtain ⟨p, q, e1, hp, hq, hm, hb⟩ := bis_ways hl hk hj h t ht
      obtain ⟨v, hv, v1, v2, v3⟩ := bis_next hl hp hq hb hu (u1.trans e1)
      obtain ⟨a, b, _, hb1, _, hbn⟩ := hl.steps u hu
      obtain ⟨c, d, _, hd1, _, hdn⟩ := hl.steps v hv
      have e2 : u.2.2.toNat = b := by omega
      have e3 : v.2.2.toNat = d := by omega
      rw [e2, e3] at v3
      rw [e2] at hx
      obtain ⟨p', q', rfl, hp', hq', hm', hb'⟩ := bis_ways hl hbn hdn (bis_symm v3) x hx
      refine ⟨((j : Int), u.2.1, (q' : Int)), satL_mem.2 ⟨j, hj, (q : Int), hm, .inr ⟨v, hv, v1, by rw [v2]; exact u2, (q' : Int), by rw [e3]; exact hm', by rw [v2]⟩⟩, rfl, rfl, by simpa using hp', by simpa using hq', by simpa using hb'⟩
  have shows : ∀ i j : Nat, i < l.shows.length → j < l.shows.length → bis l i j → ∀ x, x ∈ progShow l.shows.length l.shows l.steps i → x ∈ progShow l.shows.length l.shows l.steps j := by
    intro i j hi hj h x hx
    obtain ⟨t, ht, hx⟩ := progShow_mem.1 hx
    obtain ⟨p, q, rfl, hp, hq, hm, hb⟩ := bis_ways hl hi hj h t ht
    rw [Int.toNat_natCast, bis_shows hp hq hb] at hx
    exact progShow_mem.2 ⟨(q : Int), hm, by rw [Int.toNat_natCast]; exact hx⟩
  refine bis_great (satL_good hl) (R := fun i j => i < l.shows.length ∧ j < l.shows.length ∧ bis l i j) ?_ i j ⟨hi, hj, h⟩
  rintro i j ⟨hi, hj, h⟩
  refine ⟨by rw [satL_len]; exact hi, by rw [satL_len]; exact hj, ?_, fun s hs e => half i j hi hj h s hs e, fun t ht e => ?_⟩
  · rw [satL_show hi, satL_show hj]
    exact sorted_eq (unions_fold l.shows _ [] List.Pairwise.nil).1 (unions_fold l.shows _ [] List.Pairwise.nil).1 fun x => ⟨shows i j hi hj h x, shows j i hj hi (bis_symm h) x⟩
  · obtain ⟨s, hs, s1, s2, s3, s4, s5⟩ := half j i hj hi (bis_symm h) t ht e
    exact ⟨s, hs, s1, s2, s4, s3, bis_symm s5⟩

end Go.Proofs.YtdgnhfhaaghoaaaGreatDoor

set_option linter.unusedVariables false
namespace Go.Proofs.YtdgnhfhaaghoaaaGreatDoor

def bisC (l : Lab) (a b : Int) : Bool := decide (0 ≤ a) && decide (a < (l.shows.length : Int)) && decide (0 ≤ b) && decide (b < (l.shows.length : Int)) && (atP (lastL l) a == atP (lastL l) b)
theorem bisC_iff {l : Lab} {i j : Nat} : bisC l i j = true ↔ i < l.shows.length ∧ j < l.shows.length ∧ bis l i j := by
  unfold bisC bis atP
  simp only [Bool.and_eq_true, decide_eq_true_eq, beq_iff_eq, Int.toNat_natCast]
  constructor
  · rintro ⟨⟨⟨⟨_, h1⟩, _⟩, h2⟩, h3⟩; exact ⟨by omega, by omega, h3⟩
  · rintro ⟨h1, h2, h3⟩; exact ⟨⟨⟨⟨by omega, by omega⟩, by omega⟩, by omega⟩, h3⟩
theorem bis_sim {l : Lab} (hl : GoodL l) {init r : Int → Int → Bool} (hr : SimR l.shows.length l.steps init r) (hinit : ∀ i j : Nat, i < l.shows.length → j < l.shows.length → l.shows.getD i [] = l.shows.getD j [] → init i j = true) {i j : Nat} (hi : i < l.shows.length) (hj : j < l.shows.length) (h : bis l i j) : r i j = true := by
  have nat : ∀ a b, bisC l a b = true → ∃ i j : Nat, a = (i : Int) ∧ b = (j : Int) := by
    intro a b h
    unfold bisC at h
    simp only [Bool.and_eq_true, decide_eq_true_eq] at h
    exact ⟨a.toNat, b.toNat, by omega, by omega⟩
  refine hr.great (bisC l) (fun a b h => ?_) (fun a b h => ?_) i j (bisC_iff.2 ⟨hi, hj, h⟩)
  · obtain ⟨i, j, rfl, rfl⟩ := nat a b h
    obtain ⟨hi, hj, hb⟩ := bisC_iff.1 h
    exact hinit i j hi hj (bis_shows hi hj hb)
  · obtain ⟨i, j, rfl, rfl⟩ := nat a b h
    obtain ⟨hi, hj, hb⟩ := bisC_iff.1 h
    unfold folB
    rw [List.all_eq_true]
    intro s hs
    rw [Bool.or_eq_true]
    by_cases e : s.1 = (i : Int)
    · right
      obtain ⟨t, ht, t1, t2, t3⟩ := bis_next hl hi hj hb hs e
      obtain ⟨_, b, _, hb1, _, hbn⟩ := hl.steps s hs
      obtain ⟨_, d, _, hd1, _, hdn⟩ := hl.steps t ht
      have e1 : s.2.2.toNat = b := by omega
      have e2 : t.2.2.toNat = d := by omega
      rw [e1, e2] at t3
      rw [List.any_eq_true]
      refine ⟨t, ht, ?_⟩
      rw [hb1, hd1, bisC_iff.2 ⟨hbn, hdn, bis_symm t3⟩]
      simp [t1, t2]
    · left
      simpa using e

/-! Unions. -/

end Go.Proofs.YtdgnhfhaaghoaaaGreatDoor

set_option linter.unusedVariables false
namespace Go.Proofs.YtdgnhfhaaghoaaaGreatDoor
open Go.RowKit

def offs (n : Nat) : List Value := List.replicate n (.bool false)
/-- A table that is being laid: k rows of n times no. -/
def TB0 (w : World) (B : Nat) (u : Value) (k n : Nat) : Prop :=
  ∃ vs : List Value, w.ownsRow B 79 1 u k vs ∧ (∀ (i : Nat) v, vs[i]? = some v → w.ownsRow B 4 1 v n (offs n)) ∧
    (∀ (i j : Nat) v v' b, i < j → vs[i]? = some v → vs[j]? = some v' → v.ownBlock = some b → v'.ownBlock ≠ some b)

theorem TB0.push {w w1 w2 : World} {B k n : Nat} {u u2 r : Value} {vs : List Value} {o : Obj}
    (h1 : w.ownsRow B 79 1 u k vs) (h2 : ∀ (i : Nat) v, vs[i]? = some v → w.ownsRow B 4 1 v n (offs n))
    (h3 : ∀ (i j : Nat) v v' b, i < j → vs[i]? = some v → vs[j]? = some v' → v.ownBlock = some b → v'.ownBlock ≠ some b)
    (hB : B ≤ w.heap.size) (hr : w1.ownsRow w.heap.size 4 1 r n (offs n)) (hb : Below w.heap.size w w1)
    (ho : w2.ownsRow B 79 1 u2 (k + 1) (vs ++ [r])) (hg : (w1.alloc o).grownBy w2 u.ownBlock) : TB0 w2 B u2 (k + 1) n := by
  have hu1 : (w1.alloc o).ownsRow B 79 1 u k vs := (owns_below h1 hb (Nat.le_refl _)).alloc _
  refine ⟨vs ++ [r], ho, fun i v hv => ?_, fun i j v v' b hij hv hv' hvb => ?_⟩
  · rcases Nat.lt_trichotomy i vs.length with hi | hi | hi
    · rw [List.getElem?_append_left hi] at hv
      have ha : (w1.alloc o).ownsRow B 4 1 v n (offs n) := (owns_below (h2 i v hv) hb (Nat.le_refl _)).alloc _
      exact owns_grown' ha hg (fun g hgv => owns_apart' ha hu1 (by decide) g hgv)
    · subst hi
      rw [List.getElem?_append_right (Nat.le_refl _), Nat.sub_self] at hv
      simp at hv
      subst hv
      have ha : (w1.alloc o).ownsRow B 4 1 r n (offs n) := (owns_mono hr hB).alloc _
      exact owns_grown' ha hg (fun g hgv => owns_apart' ha hu1 (by decide) g hgv)
    · rw [List.getElem?_eq_none (by simp; omega)] at hv
      cases hv
  · have hj : j ≤ vs.length := by
      have := (List.getElem?_eq_some_iff.1 hv').1
      simp at this
      omega
    rw [List.getElem?_append_left (by omega)] at hv
    rcases Nat.lt_or_eq_of_le hj with hj | hj
    · rw [List.getElem?_append_left hj] at hv'
      exact h3 i j v v' b hij hv hv' hvb
    · subst hj
      rw [List.getElem?_append_right (Nat.le_refl _), Nat.sub_self] at hv'
      simp at hv'
      subst hv'
      have a1 := ((h2 i v hv).lt b hvb).2
      intro e
      have a2 := (hr.lt b e).1
      omega

/-- A table of n times n truth values: the rows' blocks are R, their capacities C. -/
structure TabB (w : World) (B g : Nat) (R C : Nat → Nat) (n : Nat) (f : Nat → Nat → Bool) : Prop where
  outer : ∀ i, i < n → w.cell? ⟨g, i, none⟩ = some (.slice (some ⟨R i, 0, none⟩) n (C i))
  inner : ∀ i j, i < n → j < n → w.cell? ⟨R i, j, none⟩ = some (.bool (f i j)) ∧ w.frozen? ⟨R i, j, none⟩ = false
  lowg : B ≤ g
  low : ∀ i, i < n → B ≤ R i ∧ R i ≠ g
  inj : ∀ i j, i < n → j < n → R i = R j → i = j

def setN (f : Nat → Nat → Bool) (i j : Nat) (b : Bool) : Nat → Nat → Bool := fun x y => if x = i ∧ y = j then b else f x y

section
variable {w w' : World} {B g n : Nat} {R C : Nat → Nat} {f : Nat → Nat → Bool}
theorem TabB.below {B2 : Nat} (h : TabB w B g R C n f) (hb : Below B2 w w') (hB : w.heap.size ≤ B2) : TabB w' B g R C n f := by
  refine ⟨fun i hi => ?_, fun i j hi hj => ?_, h.lowg, h.low, h.inj⟩
  · have := h.outer i hi
    exact cell_below hb this (by have := lt_of_cell this; omega)
  · obtain ⟨h1, h2⟩ := h.inner i j hi hj
    have hl := lt_of_cell h1
    exact ⟨cell_below hb h1 (by omega), (World.frozen?_of_block (a := ⟨R i, j, none⟩) (hb.block _ (by dsimp only at hl ⊢; omega))).trans h2⟩
theorem TabB.set (h : TabB w B g R C n f) {i j : Nat} (hi : i < n) (hj : j < n) (b : Bool) : TabB (w.setCell ⟨R i, j, none⟩ (.bool b)) B g R C n (setN f i j b) := by
  refine ⟨fun x hx => ?_, fun x y hx hy => ?_, h.lowg, h.low, h.inj⟩
  · rw [World.cell?_setCell_other _ _ _ _ (by intro e; simp only [Addr.mk.injEq, and_true] at e; exact (h.low i hi).2 e.1)]
    exact h.outer x hx
  · obtain ⟨h1, h2⟩ := h.inner x y hx hy
    rw [World.frozen?_setCell]
    refine ⟨?_, h2⟩
    unfold setN
    by_cases e : x = i ∧ y = j
    · rw [if_pos e]
      obtain ⟨rfl, rfl⟩ := e
      exact World.cell?_setCell_same w _ _ h1
    · rw [if_neg e, World.cell?_setCell_other _ _ _ _ (by intro e2; simp only [Addr.mk.injEq, and_true] at e2; exact e ⟨(h.inj i x hi hx e2.1).symm, e2.2.symm⟩)]
      exact h1
theorem TabB.mono {B' : Nat} (h : TabB w B g R C n f) (hB : B' ≤ B) : TabB w B' g R C n f :=
  ⟨h.outer, h.inner, Nat.le_trans hB h.lowg, fun i hi => ⟨Nat.le_trans hB (h.low i hi).1, (h.low i hi).2⟩, h.inj⟩
theorem TabB.congr {f' : Nat → Nat → Bool} (h : TabB w B g R C n f) (hf : ∀ i j, i < n → j < n → f i j = f' i j) : TabB w B g R C n f' :=
  ⟨h.outer, fun i j hi hj => by rw [← hf i j hi hj]; exact h.inner i j hi hj, h.lowg, h.low, h.inj⟩
end

def capOf : Value → Nat
  | .slice _ _ c => c
  | _ => 0
theorem TB0.tab {w : World} {B n : Nat} {u : Value} (h : TB0 w B u n n) (hn : 1 ≤ n) : ∃ g c R C, u = .slice (some ⟨g, 0, none⟩) n c ∧ TabB w B g R C n (fun _ _ => false) := by
  obtain ⟨vs, h1, h2, h3⟩ := h
  have hvl : vs.length = n := by have := h1.1; omega
  rcases h1.2 with ⟨_, e⟩ | ⟨g, c, cur, rfl, hBg, hg, a1, a2, a3, a4⟩
  · omega
  have hrow : ∀ i, i < n → ∃ v : Value, vs[i]? = some v ∧ w.ownsRow B 4 1 v n (offs n) ∧ ∃ r c', v = .slice (some ⟨r, 0, none⟩) n c' := fun i hi => by
    have hv : vs[i]? = some (vs[i]'(by omega)) := List.getElem?_eq_getElem (by omega)
    have ho := h2 i _ hv
    refine ⟨_, hv, ho, ?_⟩
    rcases ho.2 with ⟨_, e⟩ | ⟨r, c', cur', e, _⟩
    · omega
    · exact ⟨r, c', e⟩
  have hR : ∀ i, i < n → ∃ r c', vs[i]? = some (.slice (some ⟨r, 0, none⟩) n c') ∧ ((vs[i]?.bind Value.ownBlock).getD 0) = r ∧ capOf (vs[i]?.getD undef) = c' := fun i hi => by
    obtain ⟨v, hv, _, r, c', rfl⟩ := hrow i hi
    exact ⟨r, c', hv, by rw [hv]; rfl, by rw [hv]; rfl⟩
  refine ⟨g, c, fun i => (vs[i]?.bind Value.ownBlock).getD 0, fun i => capOf (vs[i]?.getD undef), rfl, ⟨fun i hi => ?_, fun i j hi hj => ?_, hBg, fun i hi => ?_, fun i j hi hj e => ?_⟩⟩
  · obtain ⟨r, c', hv, e1, e2⟩ := hR i hi
    rw [e1, e2, cell_of_row w g i cur _ _ hg, ← hv, ← a4, List.getElem?_take, if_pos (by omega)]
    simp
  · obtain ⟨r, c', hv, e1, e2⟩ := hR i hi
    rw [e1]
    have ho := h2 i _ hv
    have := ho.cellAt j (by omega)
    rw [this, offs, List.getElem?_replicate, if_pos hj]
    exact ⟨rfl, ho.frozenAt _⟩
  · obtain ⟨r, c', hv, e1, e2⟩ := hR i hi
    rw [e1]
    have ho := h2 i _ hv
    refine ⟨(ho.lt r rfl).1, fun e => ?_⟩
    exact owns_apart' ho h1 (by decide) r rfl (by rw [e]; rfl)
  · obtain ⟨r, c', hv, e1, e2⟩ := hR i hi
    obtain ⟨r', c'', hv', e1', e2'⟩ := hR j hj
    rw [e1, e1'] at e
    subst e
    rcases Nat.lt_trichotomy i j with hh | hh | hh
    · exact absurd rfl (h3 i j _ _ r hh hv hv' rfl)
    · exact hh
    · exact absurd rfl (h3 j i _ _ r hh hv' hv rfl)

theorem info_tb : (Tryz.prog.info? 4).map (fun i => (i.zero, i.size, i.bytes)) = some (some (.bool false), 1, 1) := by kernel_rfl
theorem info_tbs : (Tryz.prog.info? 79).map (fun i => (i.zero, i.size, i.bytes)) = some (some (.slice none 0 0), 1, 24) := by kernel_rfl
theorem made_offs (n : Nat) : (madeCells (Value.bool false).cells (n * 1)).toList = offs n := by
  show (madeCells #[_] _).toList = _
  rw [toList_madeCells_one, Nat.mul_one]
  rfl

set_option maxRecDepth 100000 in
set_option maxHeartbeats 4000000 in
theorem l11Table_any (n : Nat) (w : World) (h0 : 1 ≤ n) (h1 : n ≤ 40) :
    Calls Tryz.prog 111 #[.int .i64 n] w fun e w' => ∃ g c R C, e = .returned (.slice (some ⟨g, 0, none⟩) n c) ∧ TabB w' w.heap.size g R C n (fun _ _ => false) ∧ Below w.heap.size w w' := by
  obtain ⟨i0, hi, hz0, hz1, hz2⟩ := info_parts info_tb
  obtain ⟨j0, hj, hy0, hy1, hy2⟩ := info_parts info_tbs
  go_enter Tryz.func111, Tryz.ntmps111
  go_wp2_with fail
  go_loopw [3, 4] (fun u i wr => ∃ k : Nat, k ≤ n ∧ i = .int .i64 k ∧ TB0 wr w.heap.size u k n ∧ Below w.heap.size w wr)
    (fun _ i _ => n - (intOf i).toNat)
  case atStart => exact ⟨0, Nat.zero_le _, rfl, ⟨[], World.ownsRow_made w #[] 0 (Nat.le_refl _) (Nat.zero_le _) rfl, fun i v h => by simp at h, fun i j v v' b _ h => by simp at h⟩, (Below.refl _ _).alloc (Nat.le_refl _) _⟩
  case round =>
    obtain ⟨k, hk, rfl, htab, hbel⟩ := hrel
    by_cases hlt : k < n
    · obtain ⟨vs, t1, t2, t3⟩ := htab
      obtain ⟨AU, cU, rfl, t1⟩ := owns_form t1
      have T1 := Lib.hid t1
      have T2 := Lib.hid t2
      have T3 := Lib.hid t3
      have HB := Lib.hid hbel
      have hwr := hbel.size
      clear t1 t2 t3 hbel
      go_wp2_with (first | (at_make; refine wpList_make_full _ rfl _ _ 79 rfl wr.heap.size 4 i0 _ 1 Tryz.underlying79 hi hz0 hz1 _ _ _ _ n rfl rfl rfl rfl (by rw [hz2]; omega) (by unfold maxLen; omega) (Nat.le_refl _) ?_; intro w1 hown1 hgrow1; rw [made_offs] at hown1; have hb1 : Below wr.heap.size wr w1 := (Below.refl _ _).grown hgrow1 (Nat.le_refl _) (by simp); have HR := Lib.hid hown1; have HB1 := Lib.hid hb1; have HO1 := Lib.hid ((owns_below T1.out hb1 (Nat.le_refl _)).alloc (.cells #[.slice (some ⟨wr.heap.size, 0, none⟩) n n] 79)); have hs1 := hb1.size; clear hown1 hgrow1 hb1) | (at_builtin; refine wpList_append_own _ rfl _ _ 117 rfl w.heap.size 79 j0 (.slice none 0 0) 1 24 Tryz.underlying117 hj hy0 hy1 hy2 rfl (by decide) _ _ _ rfl HO1.out ⟨w1.heap.size, 0, none⟩ 1 1 [.slice (some ⟨wr.heap.size, 0, none⟩) n n] rfl rfl ?c1 ?c2 ?c3 ?c4 ?c5 ?_))
      case c1 => exact new_cell1 _ _ _ rfl
      case c2 => intro u hu; simp at hu; subst hu; rfl
      case c3 => unfold maxLen; omega
      case c4 => omega
      case c5 => simp; omega
      intro v2 w2 hown2 hgrow2 _
      have HP := Lib.hid (TB0.push T1.out T2.out T3.out hwr HR.out HB1.out hown2 hgrow2)
      have HG := Lib.hid (((HB.out.trans (HB1.out.mono hwr)).alloc (Nat.le_trans hwr hs1) _).grown hgrow2 (by simp; omega) (fun q hq => (HO1.out.lt q hq).1))
      clear hown2 hgrow2
      go_wp2_with fail
      go_roundw
      case rel => exact ⟨k + 1, by omega, by go_num, HP.out, HG.out⟩
      case measure => simp [intOf]; omega
    · obtain rfl : k = n := by omega
      obtain ⟨g, c, R, C, rfl, ht⟩ := htab.tab h0
      have HT := Lib.hid ht
      have HB := Lib.hid hbel
      clear htab ht hbel
      go_wp2_with fail
      go_ret
      exact ⟨g, c, R, C, rfl, HT.out, HB.out⟩

end Go.Proofs.YtdgnhfhaaghoaaaGreatDoor
