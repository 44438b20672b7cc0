/- Rows of bools that are set place by place, as the steps of a labelled system tell. No program is in sight. -/
import Derived.Test.YtfbcepdcdoiieaaProg
import Derived.Test.YtfbcepdcdoiieaaSat
set_option linter.unusedVariables false
namespace Go.Proofs.Ytfbcepdcdoiieaa
open Go.RowKit

def canT (d : Int) (ends : List Bool) (ss : List I3) (i : Nat) : Bool := ss.any fun s => (s.1 == (i : Int)) && (s.2.1 == d) && ends.getD s.2.2.toNat false
def rowT (n : Nat) (d : Int) (ends : List Bool) (ss : List I3) : List Bool := (List.range n).map (canT d ends ss)

theorem rowT_len (n : Nat) (d : Int) (ends : List Bool) (ss : List I3) : (rowT n d ends ss).length = n := by simp [rowT]
theorem rowT_nil (n : Nat) (d : Int) (ends : List Bool) : rowT n d ends [] = List.replicate n false := by
  apply List.ext_getElem
  · simp [rowT]
  · intro i h1 h2
    simp [rowT, canT]
theorem rowT_at {n : Nat} {d : Int} {ends : List Bool} {ss : List I3} {i : Nat} (h : i < n) : (rowT n d ends ss)[i]? = some (canT d ends ss i) := by simp [rowT, h]
theorem rowT_set {n : Nat} {d : Int} {ends : List Bool} {ss : List I3} {s : I3} {i : Nat} (hs : s.1 = (i : Int)) (h : i < n) :
    (rowT n d ends ss).set i (canT d ends ss i || ((s.2.1 == d) && ends.getD s.2.2.toNat false)) = rowT n d ends (ss ++ [s]) := by
  apply List.ext_getElem
  · simp [rowT]
  · intro j h1 h2
    rw [List.getElem_set]
    simp [rowT_len] at h2
    by_cases e : i = j
    · subst e
      simp [rowT, canT, hs]
    · have : ¬ s.1 = (j : Int) := by omega
      simp [rowT, canT, e, this]
theorem rowT_step {n : Nat} {d : Int} {ends : List Bool} {ss : List I3} {j : Nat} {s : I3} {i : Nat} (hj : ss[j]? = some s) (hs : s.1 = (i : Int)) (h : i < n) :
    (rowT n d ends (ss.take j)).set i (canT d ends (ss.take j) i || ((s.2.1 == d) && ends.getD s.2.2.toNat false)) = rowT n d ends (ss.take (j + 1)) := by
  rw [rowT_set hs h]
  obtain ⟨hl, e⟩ := List.getElem?_eq_some_iff.1 hj
  rw [List.take_succ_eq_append_getElem hl, e]

theorem set_same {row : List Bool} {k : Nat} {x : Bool} (h : row[k]? = some x) : row.set k x = row := by
  apply List.ext_getElem?
  intro j
  rw [List.getElem?_set]
  split
  · rename_i e
    subst e
    rw [h]
    simp [(List.getElem?_eq_some_iff.1 h).1]
  · rfl

theorem row_cell {wr : World} {B0 g n k : Nat} {e : TypeId} {row : List Bool} {x : Bool} (hown : wr.ownsRow B0 e 1 (.slice (some ⟨g, 0, none⟩) n n) n (bools row)) (hl : row.length = n) (hk : k < n) (hx : row[k]? = some x) (y : Bool) :
    wr.cell? ⟨g, k, none⟩ = some (.bool x) ∧ wr.frozen? ⟨g, k, none⟩ = false ∧ (wr.setCell ⟨g, k, none⟩ (.bool y)).ownsRow B0 e 1 (.slice (some ⟨g, 0, none⟩) n n) n (bools (row.set k y)) := by
  have hcell := hown.cellAt k (by omega)
  have hv : (bools row)[k]? = some (.bool x) := by simp [bools, hx]
  rw [hv] at hcell
  refine ⟨hcell, hown.frozenAt k, ?_⟩
  have hst := (hown.stored k (.bool y)).1
  have e2 : (bools row).set k (.bool y) = bools (row.set k y) := by simp [bools, List.map_set]
  rwa [e2] at hst

end Go.Proofs.Ytfbcepdcdoiieaa
