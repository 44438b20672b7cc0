/- A drawn labelled system, as what reads it wants it. Labelled systems joined: the reference's UnionOf walked. Formulas: each list that is one has its tree; what is told of it by lists and what by trees. Plain law. Rows of bools that are set place by place, as the steps of a labelled system tell. No program is in sight. -/
import Derived.Test.YtdgnhfhaaghoaaaGreatDoorProg
import Derived.Test.YtdgnhfhaaghoaaaGreatDoorJ32
import Derived.Test.YtdgnhfhaaghoaaaGreatDoorJ2
import Derived.Test.YtdgnhfhaaghoaaaGreatDoorJ26
import Derived.Test.YtdgnhfhaaghoaaaGreatDoorJ20
import Derived.Test.YtdgnhfhaaghoaaaGreatDoorJ30
import Derived.Test.YtdgnhfhaaghoaaaGreatDoorJ27
import Derived.Test.YtdgnhfhaaghoaaaGreatDoorJ28
set_option linter.unusedSimpArgs false
set_option linter.unusedVariables false
namespace Go.Proofs.YtdgnhfhaaghoaaaGreatDoor
open Go.RowKit

theorem DSz.small {l : Lab} (h : DSz l) : SmallLab l := ⟨by have := h.a; omega, by have := h.c; omega, fun xs hx => by have := h.b xs hx; omega⟩
theorem LRows.rss {w : World} {B : Nat} {u : Value} {l : List (List Int)} (h : LRows w B u l) (hn : l.length ≤ 16777216) (hs : ∀ xs ∈ l, xs.length ≤ 16777216) : RSS w u l := by
  obtain ⟨vs, a, b⟩ := h
  obtain ⟨A, c, rfl, _⟩ := owns_form a
  refine ⟨A, c, vs, rfl, by unfold maxLen; omega, by have := a.1; omega, Cells.of_owns a, fun i v xs hv hx => ?_⟩
  have h1 := b i v xs hv hx
  obtain ⟨A', c', rfl, _⟩ := owns_form h1
  have := hs xs (List.mem_of_getElem? hx)
  exact ⟨A', c', rfl, by unfold maxLen; omega, Cells.of_owns h1⟩
/-- A drawn system is one that can be read, and is small. -/
theorem DLab.rlab {w w' : World} {u t : Value} (h : DLab w w' u t) : ∃ l : Lab, SmallLab l ∧ DSz l ∧ RLab w' (.agg #[u, t]) l := by
  obtain ⟨l, hz, hT, hS⟩ := h
  refine ⟨l, hz.small, hz, u, t, rfl, hT.rss (by have := hz.a; omega) (fun xs hx => by have := hz.b xs hx; omega), ?_⟩
  obtain ⟨A, c, rfl, _⟩ := owns_form hS
  exact ⟨A, c, rfl, by have := hz.c; unfold maxLen; omega, Cells.of_owns hS⟩
theorem DLab.low {w w0 w' : World} {u t : Value} (h : DLab w0 w' u t) (hs : w.heap.size ≤ w0.heap.size) : DLab w w' u t := by
  obtain ⟨l, hz, hT, hS⟩ := h
  exact ⟨l, hz, hT.low hs, owns_mono hS hs⟩
theorem DLab.kept {w w1 w2 : World} {u t : Value} {S : Nat → Prop} (h : DLab w w1 u t) (hk : Kept S w1 w2) (hS : ∀ q, S q → q < w.heap.size) : DLab w w2 u t := by
  obtain ⟨l, hz, hT, hO⟩ := h
  exact ⟨l, hz, hT.keptG hk hS, owns_keptG hO hk hS⟩
theorem DLab.form {w w1 : World} {u t : Value} (h : DLab w w1 u t) : ∃ A n c B m d, u = .slice A n c ∧ t = .slice B m d := by
  obtain ⟨l, hz, ⟨vs, a, _⟩, hO⟩ := h
  obtain ⟨A, c, rfl, _⟩ := owns_form a
  obtain ⟨B, d, rfl, _⟩ := owns_form hO
  exact ⟨A, _, c, B, _, d, rfl, rfl⟩
/-- A labelled system stored into a box. -/
theorem box_put {W : World} {P : Nat} {a b : Value} {ty : TypeId} (u t : Value) (h : W.heap[P]? = some (.cells #[a, b] ty)) :
    ((W.setCell ⟨P, 0, none⟩ u).setCell ⟨P, 1, none⟩ t).heap[P]? = some (.cells #[u, t] ty) ∧ Kept (fun q => q = P) W ((W.setCell ⟨P, 0, none⟩ u).setCell ⟨P, 1, none⟩ t) :=
  ⟨heap_setCell_same (W.setCell ⟨P, 0, none⟩ u) P 1 _ _ t (heap_setCell_same W P 0 _ _ u h), ((Kept.refl (fun q => q = P) W).setCell (S := fun q => q = P) (p := ⟨P, 0, none⟩) rfl u).setCell (S := fun q => q = P) (p := ⟨P, 1, none⟩) rfl t⟩

end Go.Proofs.YtdgnhfhaaghoaaaGreatDoor

set_option linter.unusedVariables false
namespace Go.Proofs.YtdgnhfhaaghoaaaGreatDoor
open Go.RowKit

theorem OwnLab.mono {w : World} {S T : Nat → Prop} {v : Value} {l : Lab} (h : OwnLab w S v l) (hs : ∀ b, S b → T b) : OwnLab w T v l := by
  obtain ⟨u, t, S1, S2, a1, a2, a3, a4, a5, a6⟩ := h
  exact ⟨u, t, S1, S2, a1, a2, a3, fun b hb => hs b (a4 b hb), fun b hb => hs b (a5 b hb), a6⟩

theorem OwnLab.formU {w : World} {S : Nat → Prop} {v : Value} {a b : Lab} (h : OwnLab w S v (uniL a b)) : ∃ B1 d1 B2 d2, v = .agg #[.slice B1 (a.shows.length + b.shows.length) d1, .slice B2 (a.steps.length + b.steps.length) d2] := by
  obtain ⟨sv, tv, S1, S2, rfl, h1, h2, _⟩ := h
  obtain ⟨A, c, rfl⟩ := h1.form
  obtain ⟨B, d, rfl, _⟩ := h2
  exact ⟨A, c, B, d, by simp [uniL]⟩

end Go.Proofs.YtdgnhfhaaghoaaaGreatDoor

set_option linter.unusedVariables false
namespace Go.Proofs.YtdgnhfhaaghoaaaGreatDoor

theorem drop_at_ {f : List Int} {k : Nat} (h : k < f.length) : f.drop k = f.getD k 0 :: f.drop (k + 1) := by
  rw [List.drop_eq_getElem_cons h]
  simp [List.getD, h]
theorem tree_at (f : List Int) : ∀ (n k : Nat), 0 ≤ fEnd n f k → ∃ (a : Fo) (q : Nat), a.ok ∧ fEnd n f k = (q : Int) ∧ f.drop k = a.code ++ f.drop q
  | 0, k, h => by simp [fEnd] at h
  | n + 1, k, h => by
    have hk := fEnd_p0 h
    have hkl : k < f.length := by omega
    have hd := drop_at_ hkl
    rcases fEnd_step h with ⟨h0, h1⟩ | ⟨h0, hk1, ha, hb, h1⟩ | ⟨h0, h1⟩ | ⟨h0, ha, h1⟩ | ⟨h0, hk1, ha, hb, h1⟩
    · exact ⟨.tt, k + 1, trivial, by omega, by rw [hd, h0]; rfl⟩
    · obtain ⟨m, hm⟩ := Int.eq_ofNat_of_zero_le ha
      refine ⟨.mk m, k + 2, by show m < 8; omega, by omega, ?_⟩
      rw [hd, drop_at_ hk1, h0, hm]; rfl
    · rw [h1] at h
      obtain ⟨a, q, a1, a2, a3⟩ := tree_at f n (k + 1) h
      exact ⟨.no a, q, a1, by rw [h1]; exact a2, by rw [hd, h0, a3]; rfl⟩
    · obtain ⟨a, q, a1, a2, a3⟩ := tree_at f n (k + 1) ha
      have a2' : fEnd n f ((k : Int) + 1) = (q : Int) := a2
      rw [h1, a2'] at h
      obtain ⟨b, r, b1, b2, b3⟩ := tree_at f n q h
      refine ⟨.an a b, r, ⟨a1, b1⟩, by rw [h1, a2']; exact b2, ?_⟩
      rw [hd, h0, a3, b3]
      simp [Fo.code]
    · rw [h1] at h
      obtain ⟨m, hm⟩ := Int.eq_ofNat_of_zero_le ha
      obtain ⟨a, q, a1, a2, a3⟩ := tree_at f n (k + 2) h
      refine ⟨.ca m a, q, ⟨by omega, a1⟩, by rw [h1]; exact a2, ?_⟩
      rw [hd, drop_at_ hk1, h0, hm, a3]; rfl
theorem tree_of {f : List Int} (h : fEnd f.length f (0 : Nat) = (f.length : Int)) : ∃ a : Fo, a.ok ∧ f = a.code := by
  obtain ⟨a, q, a1, a2, a3⟩ := tree_at f f.length 0 (by omega)
  obtain rfl : q = f.length := by omega
  refine ⟨a, a1, ?_⟩
  simpa using a3
theorem end_tree {a : Fo} (ha : a.ok) : fEnd a.code.length a.code (0 : Nat) = (a.code.length : Int) := by
  have := end_code a ha [] [] a.code.length (Nat.le_refl _)
  simpa using this
theorem sat_tree (l : Lab) (hst : ∀ s ∈ l.steps, ∃ j : Nat, s.2.2 = (j : Int) ∧ j < l.shows.length) {a : Fo} (ha : a.ok) : satB l a.code a.code.length 0 = a.rows l := by
  have := sat_code l hst a ha [] [] a.code.length (Nat.le_refl _)
  simpa using this

end Go.Proofs.YtdgnhfhaaghoaaaGreatDoor

set_option linter.unusedVariables false
namespace Go.Proofs.YtdgnhfhaaghoaaaGreatDoor
open Go.RowKit

def canT (d : Int) (ends : List Bool) (ss : List I3) (i : Nat) : Bool := ss.any fun s => (s.1 == (i : Int)) && (s.2.1 == d) && ends.getD s.2.2.toNat false
def rowT (n : Nat) (d : Int) (ends : List Bool) (ss : List I3) : List Bool := (List.range n).map (canT d ends ss)

theorem rowT_len (n : Nat) (d : Int) (ends : List Bool) (ss : List I3) : (rowT n d ends ss).length = n := by simp [rowT]
theorem rowT_nil (n : Nat) (d : Int) (ends : List Bool) : rowT n d ends [] = List.replicate n false := by
  apply List.ext_getElem
  · simp [rowT]
  · intro i h1 h2
    simp [rowT, canT]
theorem rowT_at {n : Nat} {d : Int} {ends : List Bool} {ss : List I3} {i : Nat} (h : i < n) : (rowT n d ends ss)[i]? = some (canT d ends ss i) := by simp [rowT, h]
theorem rowT_set {n : Nat} {d : Int} {ends : List Bool} {ss : List I3} {s : I3} {i : Nat} (hs : s.1 = (i : Int)) (h : i < n) :
    (rowT n d ends ss).set i (canT d ends ss i || ((s.2.1 == d) && ends.getD s.2.2.toNat false)) = rowT n d ends (ss ++ [s]) := by
  apply List.ext_getElem
  · simp [rowT]
  · intro j h1 h2
    rw [List.getElem_set]
    simp [rowT_len] at h2
    by_cases e : i = j
    · subst e
      simp [rowT, canT, hs]
    · have : ¬ s.1 = (j : Int) := by omega
      simp [rowT, canT, e, this]
theorem rowT_step {n : Nat} {d : Int} {ends : List Bool} {ss : List I3} {j : Nat} {s : I3} {i : Nat} (hj : ss[j]? = some s) (hs : s.1 = (i : Int)) (h : i < n) :
    (rowT n d ends (ss.take j)).set i (canT d ends (ss.take j) i || ((s.2.1 == d) && ends.getD s.2.2.toNat false)) = rowT n d ends (ss.take (j + 1)) := by
  rw [rowT_set hs h]
  obtain ⟨hl, e⟩ := List.getElem?_eq_some_iff.1 hj
  rw [List.take_succ_eq_append_getElem hl, e]

theorem set_same {row : List Bool} {k : Nat} {x : Bool} (h : row[k]? = some x) : row.set k x = row := by
  apply List.ext_getElem?
  intro j
  rw [List.getElem?_set]
  split
  · rename_i e
    subst e
    rw [h]
    simp [(List.getElem?_eq_some_iff.1 h).1]
  · rfl

theorem row_cell {wr : World} {B0 g n k : Nat} {e : TypeId} {row : List Bool} {x : Bool} (hown : wr.ownsRow B0 e 1 (.slice (some ⟨g, 0, none⟩) n n) n (bools row)) (hl : row.length = n) (hk : k < n) (hx : row[k]? = some x) (y : Bool) :
    wr.cell? ⟨g, k, none⟩ = some (.bool x) ∧ wr.frozen? ⟨g, k, none⟩ = false ∧ (wr.setCell ⟨g, k, none⟩ (.bool y)).ownsRow B0 e 1 (.slice (some ⟨g, 0, none⟩) n n) n (bools (row.set k y)) := by
  have hcell := hown.cellAt k (by omega)
  have hv : (bools row)[k]? = some (.bool x) := by simp [bools, hx]
  rw [hv] at hcell
  refine ⟨hcell, hown.frozenAt k, ?_⟩
  have hst := (hown.stored k (.bool y)).1
  have e2 : (bools row).set k (.bool y) = bools (row.set k y) := by simp [bools, List.map_set]
  rwa [e2] at hst

end Go.Proofs.YtdgnhfhaaghoaaaGreatDoor
