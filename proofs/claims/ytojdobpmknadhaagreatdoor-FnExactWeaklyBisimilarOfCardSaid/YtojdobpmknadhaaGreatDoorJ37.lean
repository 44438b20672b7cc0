/- Labelled systems: the saturated system, and the quotient. Plain law: program and reference list the same. Labelled systems: whether each step of a state is answered by another one: the reference walked. A labelled system of a call's own: a table and a row of triples. -/
import Derived.Test.YtojdobpmknadhaaGreatDoorJ34
import Derived.Test.YtojdobpmknadhaaGreatDoorProg
import Derived.Test.YtojdobpmknadhaaGreatDoorJ15
import Derived.Test.YtojdobpmknadhaaGreatDoorJ33
import Derived.Test.YtojdobpmknadhaaGreatDoorJ25
import Derived.Lib.QuietBelow
import Derived.Deep.QuietTactic
import Derived.BigQuiet
import Derived.Deep.RegionHeld3
import Derived.Test.YtojdobpmknadhaaGreatDoorJ11
set_option linter.unusedVariables false
namespace Go.Proofs.YtojdobpmknadhaaGreatDoor

/-- Numbers of a second list put to a first one. -/
def unionI (a b : List Int) : List Int := b.foldl putI a
theorem union_fold : ∀ (b a : List Int), a.Pairwise (· < ·) → (unionI a b).Pairwise (· < ·) ∧ ∀ x, x ∈ unionI a b ↔ x ∈ a ∨ x ∈ b
  | [], a, h => ⟨h, fun x => by simp [unionI]⟩
  | y :: b, a, h => by
    obtain ⟨h1, h2⟩ := union_fold b (putI a y) (putI_sorted y h)
    refine ⟨h1, fun x => ?_⟩
    have := h2 x
    unfold unionI at this ⊢
    rw [List.foldl_cons, this, putI_mem, List.mem_cons]
    constructor
    · rintro ((h | h) | h)
      · exact .inl h
      · exact .inr (.inl h)
      · exact .inr (.inr h)
    · rintro (h | h | h)
      · exact .inl (.inl h)
      · exact .inl (.inr h)
      · exact .inr h
theorem union_of {a b o : List Int} (ha : a.Pairwise (· < ·)) (ho : o.Pairwise (· < ·)) (hm : ∀ x, x ∈ o ↔ x ∈ a ∨ x ∈ b) : o = unionI a b :=
  sorted_eq ho (union_fold b a ha).1 fun x => (hm x).trans ((union_fold b a ha).2 x).symm

def unionsI (sh : List (List Int)) (ts : List Int) (o : List Int) : List Int := ts.foldl (fun o t => unionI o (sh.getD t.toNat [])) o
theorem unions_fold (sh : List (List Int)) : ∀ (ts o : List Int), o.Pairwise (· < ·) → (unionsI sh ts o).Pairwise (· < ·) ∧ ∀ x, x ∈ unionsI sh ts o ↔ x ∈ o ∨ ∃ t ∈ ts, x ∈ sh.getD t.toNat []
  | [], o, h => ⟨h, fun x => by simp [unionsI]⟩
  | t :: ts, o, h => by
    obtain ⟨a1, a2⟩ := union_fold (sh.getD t.toNat []) o h
    obtain ⟨h1, h2⟩ := unions_fold sh ts _ a1
    refine ⟨h1, fun x => ?_⟩
    have := h2 x
    unfold unionsI at this ⊢
    rw [List.foldl_cons, this, a2 x]
    constructor
    · rintro ((h | h) | ⟨u, hu, h⟩)
      · exact .inl h
      · exact .inr ⟨t, by simp, h⟩
      · exact .inr ⟨u, by simp [hu], h⟩
    · rintro (h | ⟨u, hu, h⟩)
      · exact .inl (.inl h)
      · rcases List.mem_cons.1 hu with rfl | hu
        · exact .inl (.inr h)
        · exact .inr ⟨u, hu, h⟩
/-- The marks of a state: of all states to which silent ways lead. -/
def progShow (n : Nat) (sh : List (List Int)) (ss : List I3) (i : Nat) : List Int := unionsI sh (waysR n ss i) []
def silL (n : Nat) (ss : List I3) (i : Nat) : List Int := ((List.range n).filter fun j => silF n ss i j).map fun (j : Nat) => (j : Int)
def specShow (n : Nat) (sh : List (List Int)) (ss : List I3) (i : Nat) : List Int := unionsI sh (silL n ss i) []
theorem show_same {n : Nat} {sh : List (List Int)} {ss : List I3} (h : StepsN n ss) {i : Nat} (hi : i < n) : specShow n sh ss i = progShow n sh ss i := by
  obtain ⟨a1, a2⟩ := unions_fold sh (silL n ss i) [] List.Pairwise.nil
  obtain ⟨b1, b2⟩ := unions_fold sh (waysR n ss i) [] List.Pairwise.nil
  refine sorted_eq a1 b1 fun x => ?_
  show x ∈ unionsI sh (silL n ss i) [] ↔ x ∈ unionsI sh (waysR n ss i) []
  rw [a2 x, b2 x]
  simp only [List.not_mem_nil, false_or]
  constructor
  · rintro ⟨t, ht, hx⟩
    unfold silL at ht
    simp only [List.mem_map, List.mem_filter, List.mem_range] at ht
    obtain ⟨j, ⟨hj, hf⟩, rfl⟩ := ht
    exact ⟨(j : Int), (sil_iff h hi hj).1 hf, hx⟩
  · rintro ⟨t, ht, hx⟩
    obtain ⟨j, rfl, hj⟩ := ways_inN h hi t ht
    refine ⟨(j : Int), ?_, hx⟩
    unfold silL
    simp only [List.mem_map, List.mem_filter, List.mem_range]
    exact ⟨j, ⟨hj, (sil_iff h hi hj).2 ht⟩, rfl⟩

def satL (l : Lab) : Lab := ⟨(List.range l.shows.length).map (progShow l.shows.length l.shows l.steps), sortT (progSat l.shows.length l.steps)⟩
theorem satL_len (l : Lab) : (satL l).shows.length = l.shows.length := by simp [satL]
theorem prog_steps {n : Nat} {ss : List I3} (h : StepsN n ss) (ha : ∀ s ∈ ss, 0 ≤ s.2.1 ∧ s.2.1 < 8) : ∀ x ∈ progSat n ss, (∃ i j : Nat, x.1 = (i : Int) ∧ x.2.2 = (j : Int) ∧ i < n ∧ j < n) ∧ 0 ≤ x.2.1 ∧ x.2.1 < 8 := by
  intro x hx
  unfold progSat at hx
  simp only [List.mem_flatMap, List.mem_map, List.mem_filter, List.mem_range, List.mem_cons] at hx
  obtain ⟨i, hi, t, ht, h1 | ⟨s, ⟨hs, h1⟩, e, he, rfl⟩⟩ := hx
  · subst h1
    obtain ⟨j, rfl, hj⟩ := ways_inN h hi t ht
    exact ⟨⟨i, j, rfl, rfl, hi, hj⟩, by simp, by simp⟩
  · obtain ⟨u, v, hu, hv, hun, hvn⟩ := h s hs
    have h2 : s.2.2.toNat = v := by omega
    rw [h2] at he
    obtain ⟨j, rfl, hj⟩ := ways_inN h hvn e he
    exact ⟨⟨i, j, rfl, rfl, hi, hj⟩, ha s hs⟩
theorem satL_steps {l : Lab} (h : StepsN l.shows.length l.steps) (ha : ∀ s ∈ l.steps, 0 ≤ s.2.1 ∧ s.2.1 < 8) : StepsN (satL l).shows.length (satL l).steps ∧ ∀ s ∈ (satL l).steps, 0 ≤ s.2.1 ∧ s.2.1 < 8 := by
  rw [satL_len]
  constructor
  · intro s hs
    exact (prog_steps h ha s ((sortT_mem _ _).1 hs)).1
  · intro s hs
    exact (prog_steps h ha s ((sortT_mem _ _).1 hs)).2

/-! The quotient. -/

def isRep (l : Lab) (i : Nat) : Bool := (lastL l).getD i 0 == (i : Int)
def repsI (l : Lab) : List Int := ((List.range l.shows.length).filter (isRep l)).map fun (i : Nat) => (i : Int)
/-- The place of a state among those that are the least of their part. -/
def posR (l : Lab) (i : Nat) : Nat := ((List.range i).filter (isRep l)).length

theorem reps_sorted (l : Lab) : (repsI l).Pairwise (· < ·) := by
  unfold repsI
  rw [List.pairwise_map]
  exact List.Pairwise.imp (by intro a b h; omega) (List.pairwise_lt_range.filter _)
theorem last_rep (l : Lab) {i : Nat} (hi : i < l.shows.length) : ∃ k : Nat, (lastL l).getD i 0 = (k : Int) ∧ k < l.shows.length ∧ isRep l k = true := by
  obtain ⟨k, h1, h2, h3, _⟩ := parts_spec l l.shows.length hi
  have hk : k < l.shows.length := by omega
  refine ⟨k, h1, hk, ?_⟩
  unfold isRep
  rw [beq_iff_eq]
  have := (parts_iff l l.shows.length hk hi).2 h3
  unfold lastL
  rw [this, h1]
theorem reps_mem (l : Lab) (x : Int) : x ∈ repsI l ↔ x ∈ lastL l := by
  have hl : (lastL l).length = l.shows.length := parts_len l _
  unfold repsI
  simp only [List.mem_map, List.mem_filter, List.mem_range]
  constructor
  · rintro ⟨i, ⟨hi, hr⟩, rfl⟩
    unfold isRep at hr
    rw [beq_iff_eq] at hr
    rw [← hr]
    simp [List.getD, show i < (lastL l).length by omega]
  · intro hx
    obtain ⟨j, hj, e⟩ := List.getElem_of_mem hx
    obtain ⟨k, h1, h2, h3⟩ := last_rep l (i := j) (by omega)
    have : (lastL l).getD j 0 = x := by simp [List.getD, hj, e]
    exact ⟨k, ⟨h2, h3⟩, by rw [← h1, this]⟩
theorem range_at {p : Nat → Bool} : ∀ {n i : Nat}, i < n → p i = true → ((List.range n).filter p)[((List.range i).filter p).length]? = some i
  | 0, i, hi, _ => by omega
  | n + 1, i, hi, hp => by
    rw [List.range_succ, List.filter_append]
    by_cases h : i < n
    · have ih := range_at h hp
      rw [List.getElem?_append_left (List.getElem?_eq_some_iff.1 ih).1]
      exact ih
    · obtain rfl : i = n := by omega
      rw [List.getElem?_append_right (Nat.le_refl _), Nat.sub_self, List.filter_cons, if_pos hp]
      rfl
theorem reps_at (l : Lab) {i : Nat} (hi : i < l.shows.length) (hr : isRep l i = true) : (repsI l)[posR l i]? = some (i : Int) := by
  unfold repsI posR
  rw [List.getElem?_map, range_at hi hr]
  rfl
theorem reps_idx (l : Lab) {i : Nat} (hi : i < l.shows.length) (hr : isRep l i = true) : idxR (repsI l).length (fun k => (repsI l).getD k 0 == (i : Int)) = (posR l i : Int) := by
  have h := reps_at l hi hr
  obtain ⟨hl, e⟩ := List.getElem?_eq_some_iff.1 h
  refine idxR_some hl (fun j hj => ?_) ?_
  · have hs := (List.pairwise_iff_getElem.1 (reps_sorted l)) j (posR l i) (by omega) hl hj
    rw [e] at hs
    rw [beq_eq_false_iff_ne]
    simp [List.getD, show j < (repsI l).length by omega]
    omega
  · rw [beq_iff_eq]
    simp [List.getD, h]
theorem reps_no (l : Lab) {i : Nat} (hr : isRep l i = false) : idxR (repsI l).length (fun k => (repsI l).getD k 0 == (i : Int)) = -1 := by
  refine idxR_none fun j hj => ?_
  rw [beq_eq_false_iff_ne]
  intro e
  have : (i : Int) ∈ repsI l := by
    rw [← e]
    simp [List.getD, hj]
  unfold repsI at this
  simp only [List.mem_map, List.mem_filter, List.mem_range] at this
  obtain ⟨k, ⟨_, hk⟩, e⟩ := this
  obtain rfl : k = i := by omega
  rw [hr] at hk
  cases hk

def quoSteps (l : Lab) : List I3 := (l.steps.filter fun s => isRep l s.1.toNat).map fun s => ((posR l s.1.toNat : Int), s.2.1, (posR l ((lastL l).getD s.2.2.toNat 0).toNat : Int))
def quoL (l : Lab) : Lab := ⟨(repsI l).map fun i => l.shows.getD i.toNat [], sortT (quoSteps l)⟩

end Go.Proofs.YtojdobpmknadhaaGreatDoor

set_option linter.unusedVariables false
namespace Go.Proofs.YtojdobpmknadhaaGreatDoor
open Go.RowKit

structure LabIn (l : Lab) : Prop where
  some_ : 1 ≤ l.shows.length
  most : l.shows.length ≤ 40
  step : ∀ s ∈ l.steps, (∃ i j : Nat, s.1 = (i : Int) ∧ s.2.2 = (j : Int) ∧ i < l.shows.length ∧ j < l.shows.length) ∧ 0 ≤ s.2.1 ∧ s.2.1 < 8
theorem allR_in {n k : Nat} {p : Nat → Bool} (h : allR n p = true) (hk : k < n) : p k = true := by
  unfold allR at h
  rw [List.all_eq_true] at h
  exact h k (List.mem_range.2 hk)
theorem lab_in {l : Lab} (h : goodLab l = true) : LabIn l := by
  unfold goodLab at h
  simp only [Bool.and_eq_true] at h
  have h0 := inB_true h.1
  refine ⟨by omega, by omega, fun s hs => ?_⟩
  obtain ⟨i, hi, rfl⟩ := List.getElem_of_mem hs
  have h1 := allR_in h.2.1 hi
  unfold stepAt stepIn at h1
  have e : l.steps.getD i (0, 0, 0) = l.steps[i] := by simp [List.getD, hi]
  rw [e] at h1
  simp only [Bool.and_eq_true] at h1
  have a := inB_true h1.1.1
  have b := inB_true h1.1.2.1
  have c := inB_true h1.1.2.2
  exact ⟨⟨l.steps[i].1.toNat, l.steps[i].2.2.toNat, by omega, by omega, by omega, by omega⟩, by omega, by omega⟩

theorem any_take_next {f : Int → Bool} {L : List Int} {k : Nat} (h : k < L.length) : (L.take (k + 1)).any f = ((L.take k).any f || f (L.getD k 0)) := by
  rw [List.take_succ_eq_append_getElem h, List.any_append]
  simp [List.getD, h]

end Go.Proofs.YtojdobpmknadhaaGreatDoor

set_option linter.unusedVariables false
namespace Go.Proofs.YtojdobpmknadhaaGreatDoor
open Go.RowKit

theorem TRows.lab {w : World} {B : Nat} {u t : Value} {l : List (List Int)} {ss : List I3} (h : TRows w B u l) (k : w.ownsRow B 60 3 t ss.length (ss.flatMap tri)) :
    OwnLab w (fun b => B ≤ b ∧ b < w.heap.size) (.agg #[u, t]) ⟨l, ss⟩ := by
  obtain ⟨vs, h1, h2, h3⟩ := h
  have hvl : vs.length = l.length := by have := h1.1; omega
  have hrow : ∀ (i : Nat) v, vs[i]? = some v → ∃ xs, l[i]? = some xs ∧ w.ownsRow B 3 1 v xs.length (ints xs) := fun i v a => by
    have hil := (List.getElem?_eq_some_iff.1 a).1
    exact ⟨_, List.getElem?_eq_getElem (by omega), h2 i v _ a (List.getElem?_eq_getElem (by omega))⟩
  refine ⟨u, t, fun b => u.ownBlock = some b ∨ ∃ (i : Nat) (v : Value), vs[i]? = some v ∧ v.ownBlock = some b, fun b => t.ownBlock = some b, rfl, ?_, Own.of_owns k, ?_, fun b hb => k.lt b hb, ?_⟩
  · refine ⟨vs, fun b => u.ownBlock = some b, fun i b => ∃ v : Value, vs[i]? = some v ∧ v.ownBlock = some b, Own.of_owns h1, hvl, fun i v xs a b => (Own.of_owns (h2 i v xs a b)).mono (fun g hg => ⟨v, a, hg⟩), fun b hb => .inl hb, fun i b ⟨v, a, hb⟩ => ?_, fun i j b ⟨v, a, hb⟩ ⟨v', a', hb'⟩ => ?_⟩
    · obtain ⟨xs, _, ho⟩ := hrow i v a
      exact ⟨.inr ⟨i, v, a, hb⟩, owns_apart' ho h1 (by decide) b hb⟩
    · rcases Nat.lt_trichotomy i j with hh | hh | hh
      · exact absurd hb' (h3 i j v v' b hh a a' hb)
      · exact hh
      · exact absurd hb (h3 j i v' v b hh a' a hb')
  · rintro b (hb | ⟨i, v, a, hb⟩)
    · exact h1.lt b hb
    · obtain ⟨xs, _, ho⟩ := hrow i v a
      exact ho.lt b hb
  · rintro b (hb | ⟨i, v, a, hb⟩) hb2
    · exact owns_apart' h1 k (by decide) b hb hb2
    · obtain ⟨xs, _, ho⟩ := hrow i v a
      exact owns_apart' ho k (by decide) b hb hb2

theorem ownLab_nil (w : World) (S : Nat → Prop) : OwnLab w S (.agg #[.slice none 0 0, .slice none 0 0]) ⟨[], []⟩ := by
  refine ⟨_, _, fun _ => False, fun _ => False, rfl, ⟨[], fun _ => False, fun _ _ => False, ⟨none, 0, rfl, .inl rfl⟩, rfl, fun i u xs h => by simp at h, fun _ h => h.elim, fun _ _ h => h.elim, fun _ _ _ h => h.elim⟩, ⟨none, 0, rfl, .inl rfl⟩, fun _ h => h.elim, fun _ h => h.elim, fun _ h => h.elim⟩

end Go.Proofs.YtojdobpmknadhaaGreatDoor
