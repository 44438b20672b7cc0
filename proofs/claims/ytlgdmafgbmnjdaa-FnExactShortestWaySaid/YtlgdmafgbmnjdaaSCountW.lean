/- Ways counted: program and reference walked. -/
import Derived.Test.YtlgdmafgbmnjdaaProg
import Derived.Test.YtlgdmafgbmnjdaaSCount
import Derived.StillTailTactics
set_option linter.unusedVariables false
namespace Go.Proofs.Ytlgdmafgbmnjdaa
open Go.RowKit

theorem ifill_start (n : Nat) (res : List Int) (h : res.length = n) : (madeCells (Value.int .i64 0).cells (n * 1)).toList = ints (fillV res 0 0) := by
  show (madeCells #[_] _).toList = _
  rw [toList_madeCells_one, Nat.mul_one, fillV_zero, h]
  simp

theorem ifill_at0 {xs : List Int} {k : Nat} (h : k < xs.length) : (fillV xs 0 k)[k]? = some 0 := by
  unfold fillV
  rw [List.getElem?_append_right (by rw [List.length_take]; omega), List.getElem?_replicate, if_pos (by rw [List.length_take]; omega)]

theorem icell_at {wr : World} {B0 g n c k : Nat} {e : TypeId} {row : List Int} {x : Int} (hown : wr.ownsRow B0 e 1 (.slice (some ⟨g, 0, none⟩) n c) n (ints row)) (hk : k < n) (hx : row[k]? = some x) : wr.cell? ⟨g, k, none⟩ = some (.int .i64 x) := by
  have hcell := hown.cellAt k (by omega)
  have hv : (ints row)[k]? = some (.int .i64 x) := by simp [ints, hx]
  rw [hv] at hcell
  exact hcell

theorem irow_cell {wr : World} {B0 g n k : Nat} {e : TypeId} {row : List Int} {x : Int} (hown : wr.ownsRow B0 e 1 (.slice (some ⟨g, 0, none⟩) n n) n (ints row)) (hl : row.length = n) (hk : k < n) (hx : row[k]? = some x) (y : Int) :
    wr.cell? ⟨g, k, none⟩ = some (.int .i64 x) ∧ wr.frozen? ⟨g, k, none⟩ = false ∧ (wr.setCell ⟨g, k, none⟩ (.int .i64 y)).ownsRow B0 e 1 (.slice (some ⟨g, 0, none⟩) n n) n (ints (row.set k y)) := by
  have hcell := hown.cellAt k (by omega)
  have hv : (ints row)[k]? = some (.int .i64 x) := by simp [ints, hx]
  rw [hv] at hcell
  refine ⟨hcell, hown.frozenAt k, ?_⟩
  have hst := (hown.stored k (.int .i64 y)).1
  have e2 : (ints row).set k (.int .i64 y) = ints (row.set k y) := by simp [ints, List.map_set]
  rwa [e2] at hst

theorem owns_other {w : World} {B : Nat} {e : TypeId} {s : Nat} {g n c : Nat} {xs : List Value} {p : Addr} {u : Value} (h : w.ownsRow B e s (.slice (some ⟨g, 0, none⟩) n c) n xs) (hne : g ≠ p.block) : (w.setCell p u).ownsRow B e s (.slice (some ⟨g, 0, none⟩) n c) n xs := by
  refine ⟨h.1, ?_⟩
  rcases h.2 with hn | ⟨g', cap, cur, e', hbg, hgg, rest⟩
  · exact .inl hn
  · cases e'
    exact .inr ⟨g, c, cur, rfl, hbg, by rw [heap_setCell_other _ _ _ _ hne]; exact hgg, rest⟩

end Go.Proofs.Ytlgdmafgbmnjdaa
