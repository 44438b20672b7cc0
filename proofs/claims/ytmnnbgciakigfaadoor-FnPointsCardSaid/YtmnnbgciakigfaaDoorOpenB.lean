/- An argument opened: from the form's reading of a slice of bytes to the words of XBase. -/
import Derived.Test.YtmnnbgciakigfaaDoorOpen
import Derived.Test.YtmnnbgciakigfaaDoorCur
set_option linter.unusedVariables false
namespace Go.Proofs.YtmnnbgciakigfaaDoor
open Go.RowKit

open Go.ChangeShapes Go.WideShapes Go.ChangeAt in
theorem open_bytes {H : Type} {enc : TypeId × Value → H} {P : Program} {w : World} {base : Nat} {spare : Nat → Bool} {held : Bool} {t e : TypeId} {fuel len cap : Nat} {a : Option Addr} {x : DataW H × List MemPlace}
    (ht : P.underlying t = some (.slice e)) (he : P.underlying e = some (.int .u8)) (hC : P.cellsOf e = 1) (h : DataW.trod enc P w base spare held fuel t (Value.slice a len cap).cells.toList = some x) :
    ∃ A c bs, Value.slice a len cap = .slice A bs.length c ∧ Cells w A (u8s bs) ∧ (∀ x ∈ bs, 0 ≤ x ∧ x < 256) ∧ bs.length ≤ maxLen ∧ bs.length ≤ c := by
  rcases open_ints ht he hC h with ⟨hcs, _⟩ | ⟨x, l, c, zs, hcs, _, hl, hm, hz, _, hcell, hwz⟩
  · simp [Value.cells] at hcs
    obtain ⟨rfl, rfl, rfl⟩ := hcs
    exact ⟨none, 0, [], rfl, Cells.nil _ _, (fun x hx => by cases hx), by unfold maxLen; simp, by simp⟩
  · simp [Value.cells] at hcs
    obtain ⟨rfl, rfl, rfl⟩ := hcs
    have hzl : len ≤ zs.length := by rw [hz]; split <;> omega
    clear hz
    have e1 : (zs.take len).length = len := by rw [List.length_take]; omega
    refine ⟨some x, cap, zs.take len, by rw [e1], Cells.of_add fun j u hj => ?_, fun y hy => ?_, by rw [e1]; omega, by rw [e1]; omega⟩
    · have hjl : j < len := by have := (List.getElem?_eq_some_iff.1 hj).1; simp at this; omega
      have e2 : (u8s (zs.take len))[j]? = some (.int .u8 (zs.getD j 0)) := by
        have hjz : j < zs.length := by omega
        simp [u8s, List.getElem?_take, hjl, hjz, List.getD]
      rw [e2] at hj
      injection hj with hj
      subst hj
      exact hcell j (by omega)
    · have := hwz y (List.mem_of_mem_take hy)
      simp only [Lit.wf, Bool.and_eq_true, decide_eq_true_eq] at this
      rw [show IntKind.u8.min = 0 from rfl, show IntKind.u8.max = 255 from rfl] at this
      omega

end Go.Proofs.YtmnnbgciakigfaaDoor
