/- What the formula of TellApart tells: the first state satisfies it, the second does not, and their parts differ. Plain law. Two well-formed labelled systems side by side are one; what the law of quotients asks. Plain law. A labelled system in a box, as the laws keep them; what stays of it. -/
import Derived.Test.YtdgnhfhaaghoaaaGreatDoorProg
import Derived.Test.YtdgnhfhaaghoaaaGreatDoorJ26
import Derived.Test.YtdgnhfhaaghoaaaGreatDoorJ14
import Derived.Test.YtdgnhfhaaghoaaaGreatDoorJ27
import Derived.Test.YtdgnhfhaaghoaaaGreatDoorJ12
import Derived.Test.YtdgnhfhaaghoaaaGreatDoorJ3
import Derived.Lib.AppendZeros
import Derived.Test.YtdgnhfhaaghoaaaGreatDoorJ15
import Derived.Test.YtdgnhfhaaghoaaaGreatDoorJ30
import Derived.Test.YtdgnhfhaaghoaaaGreatDoorJ2
import Derived.Test.YtdgnhfhaaghoaaaGreatDoorJ4
import Derived.Test.YtdgnhfhaaghoaaaGreatDoorJ0
import Derived.Test.YtdgnhfhaaghoaaaGreatDoorJ23
import Derived.Lib.QuietBelow
import Derived.Deep.QuietTactic
import Derived.BigQuiet
import Derived.Deep.RegionHeld3
import Derived.Test.YtdgnhfhaaghoaaaGreatDoorJ24
import Derived.Test.YtdgnhfhaaghoaaaGreatDoorJ33
import Derived.Test.YtdgnhfhaaghoaaaGreatDoorJ37
import Derived.Test.YtdgnhfhaaghoaaaGreatDoorJ6
import Derived.Test.YtdgnhfhaaghoaaaGreatDoorJ7
import Derived.Test.YtdgnhfhaaghoaaaGreatDoorJ8
import Derived.Lib.SliceRun
import Derived.Sort.OwnSortedInts
import Derived.Test.YtdgnhfhaaghoaaaGreatDoorJ16
import Derived.Test.YtdgnhfhaaghoaaaGreatDoorJ17
set_option linter.unusedSimpArgs false
set_option linter.unusedVariables false
namespace Go.Proofs.YtdgnhfhaaghoaaaGreatDoor
open Go.RowKit

theorem goodL_of {l : Lab} (h : goodLab l = true) : GoodL l where
  some_ := (goodF_size h).1
  steps := goodF_steps h
  acts := goodF_acts h
  marks := fun i hi => ⟨(goodF_row h hi).1, (goodF_row h hi).2.1⟩
theorem which_mem {bs : List Bool} {k i : Nat} (h : i < k) : (whichB bs k).contains (i : Int) = bs.getD i false := by
  rw [Bool.eq_iff_iff, List.contains_iff_mem]
  unfold whichB
  rw [List.mem_map]
  constructor
  · rintro ⟨j, hj, e⟩
    obtain rfl : j = i := by omega
    exact (List.mem_filter.1 hj).2
  · intro e
    exact ⟨i, List.mem_filter.2 ⟨List.mem_range.2 h, e⟩, rfl⟩
theorem code_one (a : Fo) : 1 ≤ a.code.length := by cases a <;> simp [Fo.code]
theorem isF_code {a : Fo} (ha : a.ok) (hn : a.code.length ≤ 200) : isF a.code = true := by
  unfold isF
  rw [Bool.and_eq_true]
  refine ⟨?_, by rw [beq_iff_eq]; exact end_tree ha⟩
  have := code_one a
  unfold inB
  simp
  omega
theorem okS_code {l : Lab} (hg : goodLab l = true) {a : Fo} (ha : a.ok) (hn : a.code.length ≤ 200) : okS l a.code = true := by
  unfold okS
  rw [hg, isF_code ha hn]; rfl
theorem satS_has {l : Lab} (hg : goodLab l = true) {a : Fo} (ha : a.ok) (hn : a.code.length ≤ 200) {i : Nat} (hi : i < l.shows.length) : (satS l a.code).contains (i : Int) = a.sat l i := by
  unfold satS
  rw [if_pos (okS_code hg ha hn), which_mem hi, sat_tree l (fun s hs => by obtain ⟨_, j, _, h, _, h2⟩ := goodF_steps hg s hs; exact ⟨j, h, h2⟩) ha, rows_at hi]
end Go.Proofs.YtdgnhfhaaghoaaaGreatDoor

set_option linter.unusedVariables false
namespace Go.Proofs.YtdgnhfhaaghoaaaGreatDoor
open Go.RowKit

theorem bisR_at {l : Lab} (h : goodLab l = true) : (bisR l).length = l.shows.length ∧ 0 < (bisR l).length := by
  have := goodF_size h
  unfold bisR
  rw [if_pos h, show (lastL l).length = _ from parts_len _ _]
  omega
end Go.Proofs.YtdgnhfhaaghoaaaGreatDoor

set_option linter.unusedVariables false
namespace Go.Proofs.YtdgnhfhaaghoaaaGreatDoor
open Go.RowKit

structure At (W : World) (g : Nat) (U T : Value) (l : Lab) : Prop where
  box : W.heap[g]? = some (.cells #[U, T] 27)
  r : RLab W (.agg #[U, T]) l
section
variable {W W' : World} {g : Nat} {U T : Value} {l : Lab}
theorem At.below (h : At W g U T l) (hb : Below W.heap.size W W') : At W' g U T l :=
  { box := (hb.block g (Array.getElem?_eq_some_iff.1 h.box).1).trans h.box, r := h.r.below hb }
theorem At.cells (h : At W g U T l) : W.cell? ⟨g, 0, none⟩ = some U ∧ W.cell? ⟨g, 1, none⟩ = some T := ⟨cell_of_row W g 0 _ _ _ h.box, cell_of_row W g 1 _ _ _ h.box⟩
theorem At.new (hW : W' = W.alloc (.cells #[U, T] 27)) (hr : RLab W (.agg #[U, T]) l) : At W' W.heap.size U T l := by
  subst hW
  exact { box := heap_alloc_new _ _, r := hr.below ((Below.refl _ _).alloc (Nat.le_refl _) _) }
end
theorem below_new {w w' : World} {o : Obj} (h : w' = w.alloc o) : Below w.heap.size w w' := by
  subst h; exact (Below.refl _ _).alloc (Nat.le_refl _) _
theorem DLab.open_ {w w' : World} {u t : Value} (h : DLab w w' u t) : ∃ (l : Lab) (AU : Option Addr) (cU : Nat) (AT : Option Addr) (cT : Nat), SmallLab l ∧ DSz l ∧ u = .slice AU l.shows.length cU ∧ t = .slice AT l.steps.length cT ∧ RLab w' (.agg #[u, t]) l := by
  obtain ⟨l, hs, hz, hR⟩ := h.rlab
  obtain ⟨sv, tv, e, ⟨AU, cU, vs, e1, h1⟩, ⟨AT, cT, e2, h2⟩⟩ := hR
  cases e
  exact ⟨l, AU, cU, AT, cT, hs, hz, e1, e2, u, t, rfl, ⟨AU, cU, vs, e1, h1⟩, ⟨AT, cT, e2, h2⟩⟩
theorem owns_cap {w : World} {B n c : Nat} {e : TypeId} {s : Nat} {A : Option Addr} {xs : List Value} (h : w.ownsRow B e s (.slice A n c) n xs) (hn : 0 < n) : ∃ g, A = some ⟨g, 0, none⟩ ∧ n ≤ c := by
  rcases h.2 with ⟨e1, e2⟩ | ⟨g, cap, cur, e1, _, _, h3, _⟩
  · omega
  · cases e1
    exact ⟨g, rfl, h3⟩
end Go.Proofs.YtdgnhfhaaghoaaaGreatDoor
