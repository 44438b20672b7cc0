/- Arguments opened: from the form's reading of a slice to the words of XBase. -/
import Derived.Test.YtmnnbgciakigfaaDoorBase
import Derived.ProofKit
set_option linter.unusedVariables false
namespace Go.Proofs.YtmnnbgciakigfaaDoor
open Go.RowKit

theorem addr_of_cell {w : World} {x : Addr} {v : Value} (h : w.cell? (x.add 0) = some v) : ∃ b o, x = ⟨b, o, none⟩ := by
  obtain ⟨b, o, s⟩ := x
  cases s with
  | none => exact ⟨b, o, rfl⟩
  | some q =>
    exfalso
    have k : w.cell? ⟨b, o, some q⟩ = none := by simp only [World.cell?]; split <;> simp
    have e : (⟨b, o, some q⟩ : Addr).add 0 = ⟨b, o, some q⟩ := by simp [Addr.add]
    rw [e, k] at h
    cases h

theorem Cells.of_add {w : World} {x : Addr} {xs : List Value} (h : ∀ j u, xs[j]? = some u → w.cell? (x.add j) = some u) : Cells w (some x) xs := fun j u hj => by
  have hl := (List.getElem?_eq_some_iff.1 hj).1
  obtain ⟨b, o, rfl⟩ := addr_of_cell (h 0 xs[0] (List.getElem?_eq_getElem _))
  refine ⟨b, o, rfl, ?_⟩
  have := h j u hj
  rwa [Addr.add_lit] at this

open Go.ChangeShapes Go.WideShapes Go.ChangeAt in
theorem open_cells_ints {H : Type} {enc : TypeId × Value → H} {P : Program} {w : World} {base : Nat} {spare : Nat → Bool} {held : Bool} {t e : TypeId} {fuel len cap : Nat} {a : Option Addr} {x : DataW H × List MemPlace}
    (ht : P.underlying t = some (.slice e)) (he : P.underlying e = some (.int .i64)) (hC : P.cellsOf e = 1) (h : DataW.trod enc P w base spare held fuel t (Value.slice a len cap).cells.toList = some x) :
    ∃ A c xs, Value.slice a len cap = .slice A xs.length c ∧ Cells w A (ints xs) := by
  rcases open_ints ht he hC h with ⟨hcs, _⟩ | ⟨x, l, c, zs, hcs, _, hl, hm, hz, _, hcell, hwz⟩
  · simp [Value.cells] at hcs
    obtain ⟨rfl, rfl, rfl⟩ := hcs
    exact ⟨none, 0, [], rfl, Cells.nil _ _⟩
  · simp [Value.cells] at hcs
    obtain ⟨rfl, rfl, rfl⟩ := hcs
    have hzl : len ≤ zs.length := by rw [hz]; split <;> omega
    clear hz
    have e1 : (zs.take len).length = len := by rw [List.length_take]; omega
    refine ⟨some x, cap, zs.take len, by rw [e1], Cells.of_add fun j u hj => ?_⟩
    have hjl : j < len := by have := (List.getElem?_eq_some_iff.1 hj).1; simp at this; omega
    rw [getElem?_ints _ _ (by omega)] at hj
    injection hj with hj
    subst hj
    rw [hcell j (by omega)]
    have : (zs.take len).getD j 0 = zs.getD j 0 := by simp [List.getD, List.getElem?_take, hjl]
    rw [this]

end Go.Proofs.YtmnnbgciakigfaaDoor
