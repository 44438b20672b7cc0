/- Arguments opened: from the form's reading of a slice to the words of XBase. An argument opened: from the form's reading of a slice of bytes to the words of XBase. A world for the witness of a row that lists Go's table of first bytes and of accepted ranges: the settled one, the two tables holding what their initialisers lay. -/
import Derived.Test.YtijkdpdmclkmlaaGreatDoorJ0
import Derived.ProofKit
import Derived.Test.YtijkdpdmclkmlaaGreatDoorJ11
import Derived.Test.YtijkdpdmclkmlaaGreatDoorProg
import Derived.Test.YtijkdpdmclkmlaaGreatDoorRows
import Derived.WalkKit
import Derived.Deep.DeepHandedRow
set_option linter.unusedSimpArgs false
set_option linter.unusedVariables false
set_option maxRecDepth 100000
set_option maxHeartbeats 16000000
namespace Go.Proofs.YtijkdpdmclkmlaaGreatDoor
open Go.RowKit
theorem addr_of_cell {w : World} {x : Addr} {v : Value} (h : w.cell? (x.add 0) = some v) : ∃ b o, x = ⟨b, o, none⟩ := by
  obtain ⟨b, o, s⟩ := x
  cases s with
  | none => exact ⟨b, o, rfl⟩
  | some q =>
    exfalso
    have k : w.cell? ⟨b, o, some q⟩ = none := by simp only [World.cell?]; split <;> simp
    have e : (⟨b, o, some q⟩ : Addr).add 0 = ⟨b, o, some q⟩ := by simp [Addr.add]
    rw [e, k] at h
    cases h

theorem Cells.of_add {w : World} {x : Addr} {xs : List Value} (h : ∀ j u, xs[j]? = some u → w.cell? (x.add j) = some u) : Cells w (some x) xs := fun j u hj => by
  have hl := (List.getElem?_eq_some_iff.1 hj).1
  obtain ⟨b, o, rfl⟩ := addr_of_cell (h 0 xs[0] (List.getElem?_eq_getElem _))
  refine ⟨b, o, rfl, ?_⟩
  have := h j u hj
  rwa [Addr.add_lit] at this

open Go.ChangeShapes Go.WideShapes Go.ChangeAt in
theorem open_bytes {H : Type} {enc : TypeId × Value → H} {P : Program} {w : World} {base : Nat} {spare : Nat → Bool} {held : Bool} {t e : TypeId} {fuel len cap : Nat} {a : Option Addr} {x : DataW H × List MemPlace}
    (ht : P.underlying t = some (.slice e)) (he : P.underlying e = some (.int .u8)) (hC : P.cellsOf e = 1) (h : DataW.trod enc P w base spare held fuel t (Value.slice a len cap).cells.toList = some x) :
    ∃ A c bs, Value.slice a len cap = .slice A bs.length c ∧ Cells w A (u8s bs) ∧ (∀ x ∈ bs, 0 ≤ x ∧ x < 256) ∧ bs.length ≤ maxLen ∧ bs.length ≤ c := by
  rcases open_ints ht he hC h with ⟨hcs, _⟩ | ⟨x, l, c, zs, hcs, _, hl, hm, hz, _, hcell, hwz⟩
  · simp [Value.cells] at hcs
    obtain ⟨rfl, rfl, rfl⟩ := hcs
    exact ⟨none, 0, [], rfl, Cells.nil _ _, (fun x hx => by cases hx), by unfold maxLen; simp, by simp⟩
  simp [Value.cells] at hcs
  obtain ⟨rfl, rfl, rfl⟩ := hcs
  have hzl : len ≤ zs.length := by rw [hz]; split <;> omega
  clear hz
  have e1 : (zs.take len).length = len := by rw [List.length_take]; omega
  refine ⟨some x, cap, zs.take len, by rw [e1], Cells.of_add fun j u hj => ?_, fun y hy => ?_, by rw [e1]; omega, by rw [e1]; omega⟩
  · have hjl : j < len := by have := (List.getElem?_eq_some_iff.1 hj).1; simp at this; omega
    have e2 : (u8s (zs.take len))[j]? = some (.int .u8 (zs.getD j 0)) := by
      have hjz : j < zs.length := by omega
      simp [u8s, List.getElem?_take, hjl, hjz, List.getD]
    rw [e2] at hj
    injection hj with hj
    subst hj
    exact hcell j (by omega)
  have := hwz y (List.mem_of_mem_take hy)
  simp only [Lit.wf, Bool.and_eq_true, decide_eq_true_eq] at this
  rw [show IntKind.u8.min = 0 from rfl, show IntKind.u8.max = 255 from rfl] at this
  omega

def laidObj (cs : Array Value) : Obj → Obj
  | .cells _ t frozen => .cells cs t frozen
  | o => o

def laidHeap (h : Array Obj) : Array Obj :=
  (h.modify 0 (laidObj (Pinned.utf8FirstZ.map (fun n : Nat => Value.int .u8 n)).toArray)).modify 1 (laidObj #[.int .u8 128, .int .u8 191, .int .u8 160, .int .u8 191, .int .u8 128, .int .u8 159, .int .u8 144, .int .u8 191, .int .u8 128, .int .u8 143, .int .u8 0, .int .u8 0, .int .u8 0, .int .u8 0, .int .u8 0, .int .u8 0, .int .u8 0, .int .u8 0, .int .u8 0, .int .u8 0, .int .u8 0, .int .u8 0, .int .u8 0, .int .u8 0, .int .u8 0, .int .u8 0, .int .u8 0, .int .u8 0, .int .u8 0, .int .u8 0, .int .u8 0, .int .u8 0])

noncomputable def laidWorld (os : Os) : World :=
  { World.holding Tryz.prog os ⟨#[], #[], []⟩ with heap := laidHeap (World.holding Tryz.prog os ⟨#[], #[], []⟩).heap }

end Go.Proofs.YtijkdpdmclkmlaaGreatDoor
