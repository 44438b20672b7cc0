/- Arguments opened: from the form's reading of a slice to the words of XBase. An argument that is a labelled system, opened: from the form's reading to the words of XLab. A world for the witness of a row that lists the three tables of the number writer: the settled one, each table holding what its initialiser lays. -/
import Derived.Test.YtdgnhfhaaghoaaaGreatDoorJ0
import Derived.ProofKit
import Derived.Test.YtdgnhfhaaghoaaaGreatDoorProg
import Derived.Test.YtdgnhfhaaghoaaaGreatDoorJ1
import Derived.OpenShut
import Derived.Deep.Slices
import Derived.Lib.SmallJoins
import Derived.Test.YtdgnhfhaaghoaaaGreatDoorRows
import Derived.WalkKit
import Derived.Deep.DeepHandedRow
set_option linter.unusedVariables false
namespace Go.Proofs.YtdgnhfhaaghoaaaGreatDoor
open Go.RowKit

theorem addr_of_cell {w : World} {x : Addr} {v : Value} (h : w.cell? (x.add 0) = some v) : ∃ b o, x = ⟨b, o, none⟩ := by
  obtain ⟨b, o, s⟩ := x
  cases s with
  | none => exact ⟨b, o, rfl⟩
  | some q =>
    exfalso
    have k : w.cell? ⟨b, o, some q⟩ = none := by simp only [World.cell?]; split <;> simp
    have e : (⟨b, o, some q⟩ : Addr).add 0 = ⟨b, o, some q⟩ := by simp [Addr.add]
    rw [e, k] at h
    cases h

theorem Cells.of_add {w : World} {x : Addr} {xs : List Value} (h : ∀ j u, xs[j]? = some u → w.cell? (x.add j) = some u) : Cells w (some x) xs := fun j u hj => by
  have hl := (List.getElem?_eq_some_iff.1 hj).1
  obtain ⟨b, o, rfl⟩ := addr_of_cell (h 0 xs[0] (List.getElem?_eq_getElem _))
  refine ⟨b, o, rfl, ?_⟩
  have := h j u hj
  rwa [Addr.add_lit] at this

open Go.ChangeShapes Go.WideShapes Go.ChangeAt in
theorem open_cells_ints {H : Type} {enc : TypeId × Value → H} {P : Program} {w : World} {base : Nat} {spare : Nat → Bool} {held : Bool} {t e : TypeId} {fuel len cap : Nat} {a : Option Addr} {x : DataW H × List MemPlace}
    (ht : P.underlying t = some (.slice e)) (he : P.underlying e = some (.int .i64)) (hC : P.cellsOf e = 1) (h : DataW.trod enc P w base spare held fuel t (Value.slice a len cap).cells.toList = some x) :
    ∃ A c xs, Value.slice a len cap = .slice A xs.length c ∧ Cells w A (ints xs) := by
  rcases open_ints ht he hC h with ⟨hcs, _⟩ | ⟨x, l, c, zs, hcs, _, hl, hm, hz, _, hcell, hwz⟩
  · simp [Value.cells] at hcs
    obtain ⟨rfl, rfl, rfl⟩ := hcs
    exact ⟨none, 0, [], rfl, Cells.nil _ _⟩
  · simp [Value.cells] at hcs
    obtain ⟨rfl, rfl, rfl⟩ := hcs
    have hzl : len ≤ zs.length := by rw [hz]; split <;> omega
    clear hz
    have e1 : (zs.take len).length = len := by rw [List.length_take]; omega
    refine ⟨some x, cap, zs.take len, by rw [e1], Cells.of_add fun j u hj => ?_⟩
    have hjl : j < len := by have := (List.getElem?_eq_some_iff.1 hj).1; simp at this; omega
    rw [getElem?_ints _ _ (by omega)] at hj
    injection hj with hj
    subst hj
    rw [hcell j (by omega)]
    have : (zs.take len).getD j 0 = zs.getD j 0 := by simp [List.getD, List.getElem?_take, hjl]
    rw [this]

end Go.Proofs.YtdgnhfhaaghoaaaGreatDoor

set_option linter.unusedVariables false
namespace Go.Proofs.YtdgnhfhaaghoaaaGreatDoor
open Go.RowKit Go.ChangeShapes Go.WideShapes Go.ChangeAt Go.Deep

section
variable {H : Type} {enc : TypeId × Value → H} {w : World} {base : Nat} {spare : Nat → Bool} {held : Bool}

theorem exists_list {α : Type} (n : Nat) {P : Nat → α → Prop} (h : ∀ i, i < n → ∃ x, P i x) : ∃ l : List α, l.length = n ∧ ∀ (i : Nat) x, l[i]? = some x → P i x := by
  induction n with
  | zero => exact ⟨[], rfl, fun i x h => by simp at h⟩
  | succ n ih =>
    obtain ⟨l, hl, hP⟩ := ih (fun i hi => h i (by omega))
    obtain ⟨x, hx⟩ := h n (by omega)
    refine ⟨l ++ [x], by simp [hl], fun i y hy => ?_⟩
    rcases Nat.lt_trichotomy i l.length with h1 | h1 | h1
    · rw [List.getElem?_append_left h1] at hy
      exact hP i y hy
    · subst h1
      rw [List.getElem?_append_right (Nat.le_refl _), Nat.sub_self] at hy
      simp at hy
      subst hy
      rw [hl]
      exact hx
    · rw [List.getElem?_eq_none (by simp; omega)] at hy
      cases hy

theorem open_ri {fuel : Nat} {cs : List Value} {x : DataW H × List MemPlace} (h : DataW.trod enc Tryz.prog w base spare held fuel 30 cs = some x) : ∃ v xs, cs = [v] ∧ RI w v xs := by
  rcases open_ints Tryz.underlying30 Tryz.underlying3 (by kernel_rfl) h with ⟨hcs, _⟩ | ⟨x, l, c, zs, hcs, _, hl, hm, hz, _, hcell, hwz⟩
  · exact ⟨_, [], hcs, none, 0, rfl, Nat.zero_le _, Cells.nil _ _⟩
  · have hzl : l ≤ zs.length := by rw [hz]; split <;> omega
    clear hz
    have e1 : (zs.take l).length = l := by rw [List.length_take]; omega
    refine ⟨_, zs.take l, hcs, some x, c, by rw [e1], by omega, Cells.of_add fun j u hj => ?_⟩
    have hjl : j < l := by have := (List.getElem?_eq_some_iff.1 hj).1; simp at this; omega
    rw [getElem?_ints _ _ (by omega)] at hj
    injection hj with hj
    subst hj
    rw [hcell j (by omega)]
    have : (zs.take l).getD j 0 = zs.getD j 0 := by simp [List.getD, List.getElem?_take, hjl]
    rw [this]

theorem open_rss {fuel : Nat} {cs : List Value} {x : DataW H × List MemPlace} (h : DataW.trod enc Tryz.prog w base spare held fuel 24 cs = some x) : ∃ v xss, cs = [v] ∧ RSS w v xss := by
  rcases open_slice1 Tryz.underlying24 (by kernel_rfl) h with ⟨hcs, _⟩ | ⟨a, len, cap, m, n, V, D, Pl, hcs, _, hl, hm, hmm, _, hi⟩
  · exact ⟨_, [], hcs, none, 0, [], rfl, Nat.zero_le _, rfl, Cells.nil _ _, fun i u xs h => by simp at h⟩
  · have hml : len ≤ m := by rw [hmm]; split <;> omega
    obtain ⟨xss, hxl, hx⟩ := exists_list (P := fun i xs => RI w (V i) xs) len (fun i hi' => by
      obtain ⟨v, xs, e, hr⟩ := open_ri (hi i (by omega)).2
      injection e with e
      subst e
      exact ⟨xs, hr⟩)
    refine ⟨_, xss, hcs, some a, cap, (List.range len).map V, by rw [hxl], by omega, by simp [hxl], Cells.of_add fun j u hj => ?_, fun i u xs h1 h2 => ?_⟩
    · have hjl : j < len := by have := (List.getElem?_eq_some_iff.1 hj).1; simpa using this
      simp [hjl] at hj
      subst hj
      exact (hi j (by omega)).1
    · have hil : i < len := by have := (List.getElem?_eq_some_iff.1 h1).1; simpa using this
      simp [hil] at h1
      subst h1
      exact hx i xs h2

theorem open_a3 {fuel : Nat} {cs : List Value} {x : DataW H × List MemPlace} (h : DataW.trod enc Tryz.prog w base spare held fuel 103 cs = some x) : ∃ t : I3, cs = tri t := by
  obtain ⟨xs, m, _, _, hl, hn, hi⟩ := DataW.trod_array Tryz.underlying103 h
  have hC : Tryz.prog.cellsOf 3 = 1 := by kernel_rfl
  have hC3 : Tryz.prog.cellsOf 103 = 3 := by kernel_rfl
  rw [hC3] at hl
  rw [hC] at hi
  match cs, hl, xs, hn with
  | [c0, c1, c2], _, [y0, y1, y2], _ =>
    obtain ⟨a, e0, _⟩ := DataW.trod_int Tryz.underlying3 (x := y0) (hi 0 (by omega))
    obtain ⟨b, e1, _⟩ := DataW.trod_int Tryz.underlying3 (x := y1) (hi 1 (by omega))
    obtain ⟨c, e2, _⟩ := DataW.trod_int Tryz.underlying3 (x := y2) (hi 2 (by omega))
    simp at e0 e1 e2
    exact ⟨(a, b, c), by rw [e0, e1, e2]; rfl⟩

theorem flat3 (l : List I3) : ∀ (j : Nat) (u : Value), (l.flatMap tri)[j]? = some u → ∃ t, l[j / 3]? = some t ∧ (tri t)[j % 3]? = some u := by
  induction l with
  | nil => intro j u h; simp at h
  | cons a r ih =>
    intro j u h
    rw [List.flatMap_cons] at h
    by_cases hj : j < 3
    · rw [List.getElem?_append_left (by simpa [tri] using hj)] at h
      exact ⟨a, by rw [Nat.div_eq_of_lt hj]; rfl, by rw [Nat.mod_eq_of_lt hj]; exact h⟩
    · rw [List.getElem?_append_right (by simp [tri]; omega)] at h
      obtain ⟨t, h1, h2⟩ := ih (j - 3) u h
      refine ⟨t, ?_, ?_⟩
      · rw [show j / 3 = (j - 3) / 3 + 1 by omega]; simpa using h1
      · rw [show j % 3 = (j - 3) % 3 by omega]; exact h2

theorem open_ra3 {fuel : Nat} {cs : List Value} {x : DataW H × List MemPlace} (h : DataW.trod enc Tryz.prog w base spare held fuel 25 cs = some x) : ∃ v l, cs = [v] ∧ RA3 w v l := by
  rcases open_slice Tryz.underlying25 h with ⟨hcs, _⟩ | ⟨a, len, cap, m, n, D, Pl, hcs, _, hl, hm, hmm, _, hi⟩
  · exact ⟨_, [], hcs, none, 0, rfl, Nat.zero_le _, Cells.nil _ _⟩
  · have hml : len ≤ m := by rw [hmm]; split <;> omega
    have hC3 : Tryz.prog.cellsOf 103 = 3 := by kernel_rfl
    rw [hC3] at hi
    obtain ⟨l, hll, hx⟩ := exists_list (P := fun i (t : I3) => ∀ r u, (tri t)[r]? = some u → w.cell? ((a.add (i * 3)).add r) = some u) len (fun i hi' => by
      obtain ⟨cs', h1, h2⟩ := hi i (by omega)
      obtain ⟨t, e⟩ := open_a3 h2
      subst e
      obtain ⟨_, hlen, hc⟩ := World.cells?_some h1
      exact ⟨t, fun r u hr => by rw [hc r (by have := (List.getElem?_eq_some_iff.1 hr).1; simpa [tri] using this)]; exact hr⟩)
    refine ⟨_, l, hcs, some a, cap, by rw [hll], by omega, Cells.of_add fun j u hj => ?_⟩
    obtain ⟨t, h1, h2⟩ := flat3 l j u hj
    have := hx (j / 3) t h1 (j % 3) u h2
    rw [Go.Deep.add_add] at this
    rwa [show j / 3 * 3 + j % 3 = j by omega] at this

set_option maxRecDepth 100000 in
theorem open_Labelled {r : Reach} {b0 : Nat} {v : Value} {d : DataW H} {p : List MemPlace} (hv : Value.okWide Tryz.prog w r b0 37 v) (h : DataW.Trod enc Tryz.prog w base spare held 37 v d p) : ∃ l, RLab w v l := by
  obtain ⟨v0, v1, y0, y1, n, rfl, _, _, h0, h1⟩ := Joins.open_agg2 Tryz.underlying37 (by kernel_rfl) (by kernel_rfl) hv h
  obtain ⟨u0, xss, e0, hr0⟩ := open_rss h0
  obtain ⟨u1, l, e1, hr1⟩ := open_ra3 h1
  injection e0 with e0
  injection e1 with e1
  subst e0 e1
  exact ⟨⟨xss, l⟩, _, _, rfl, hr0, hr1⟩

end

end Go.Proofs.YtdgnhfhaaghoaaaGreatDoor

namespace Go.Proofs.YtdgnhfhaaghoaaaGreatDoor
open Go.RowKit

def laidObj (cs : Array Value) : Obj → Obj
  | .cells _ t frozen => .cells cs t frozen
  | o => o

def laidHeap (h : Array Obj) : Array Obj :=
  (((h.modify 2 (laidObj #[.int .u8 0, .int .u8 1, .int .u8 28, .int .u8 2, .int .u8 29, .int .u8 14, .int .u8 24, .int .u8 3, .int .u8 30, .int .u8 22, .int .u8 20, .int .u8 15, .int .u8 25, .int .u8 17, .int .u8 4, .int .u8 8, .int .u8 31, .int .u8 27, .int .u8 13, .int .u8 23, .int .u8 21, .int .u8 19, .int .u8 16, .int .u8 7, .int .u8 26, .int .u8 12, .int .u8 18, .int .u8 6, .int .u8 11, .int .u8 5, .int .u8 10, .int .u8 9])).modify 3 (laidObj #[.int .u8 0, .int .u8 1, .int .u8 56, .int .u8 2, .int .u8 57, .int .u8 49, .int .u8 28, .int .u8 3, .int .u8 61, .int .u8 58, .int .u8 42, .int .u8 50, .int .u8 38, .int .u8 29, .int .u8 17, .int .u8 4, .int .u8 62, .int .u8 47, .int .u8 59, .int .u8 36, .int .u8 45, .int .u8 43, .int .u8 51, .int .u8 22, .int .u8 53, .int .u8 39, .int .u8 33, .int .u8 30, .int .u8 24, .int .u8 18, .int .u8 12, .int .u8 5, .int .u8 63, .int .u8 55, .int .u8 48, .int .u8 27, .int .u8 60, .int .u8 41, .int .u8 37, .int .u8 16, .int .u8 46, .int .u8 35, .int .u8 44, .int .u8 21, .int .u8 52, .int .u8 32, .int .u8 23, .int .u8 11, .int .u8 54, .int .u8 26, .int .u8 40, .int .u8 15, .int .u8 34, .int .u8 20, .int .u8 31, .int .u8 10, .int .u8 25, .int .u8 14, .int .u8 19, .int .u8 9, .int .u8 13, .int .u8 8, .int .u8 7, .int .u8 6])).modify 1 (laidObj #[.int .u64 1, .int .u64 10, .int .u64 100, .int .u64 1000, .int .u64 10000, .int .u64 100000, .int .u64 1000000, .int .u64 10000000, .int .u64 100000000, .int .u64 1000000000, .int .u64 10000000000, .int .u64 100000000000, .int .u64 1000000000000, .int .u64 10000000000000, .int .u64 100000000000000, .int .u64 1000000000000000, .int .u64 10000000000000000, .int .u64 100000000000000000, .int .u64 1000000000000000000, .int .u64 10000000000000000000]))

noncomputable def laidWorld (os : Os) : World :=
  { World.holding Tryz.prog os ⟨#[], #[], []⟩ with heap := laidHeap (World.holding Tryz.prog os ⟨#[], #[], []⟩).heap }

end Go.Proofs.YtdgnhfhaaghoaaaGreatDoor
