/- An argument that is a process of ambients, opened: from the form's reading to the words of XProc. -/
import Derived.Test.YtoofnicpjgmneaaDoorProg
import Derived.Test.YtoofnicpjgmneaaDoorProc
import Derived.Test.YtoofnicpjgmneaaDoorOpen
import Derived.OpenShut
import Derived.Deep.Slices
import Derived.Deep.Strs
import Derived.ChangeSame
import Derived.Lib.SmallJoins
set_option linter.unusedVariables false
namespace Go.Proofs.YtoofnicpjgmneaaDoor
open Go.RowKit Go.ChangeShapes Go.WideShapes Go.ChangeAt Go.Deep

section
variable {H : Type} {enc : TypeId × Value → H} {w : World} {base : Nat} {spare : Nat → Bool} {held : Bool}

theorem exists_list' {α : Type} (n : Nat) {P : Nat → α → Prop} (h : ∀ i, i < n → ∃ x, P i x) : ∃ l : List α, l.length = n ∧ ∀ (i : Nat) x, l[i]? = some x → P i x := by
  induction n with
  | zero => exact ⟨[], rfl, fun i x h => by simp at h⟩
  | succ n ih =>
    obtain ⟨l, hl, hP⟩ := ih (fun i hi => h i (by omega))
    obtain ⟨x, hx⟩ := h n (by omega)
    refine ⟨l ++ [x], by simp [hl], fun i y hy => ?_⟩
    rcases Nat.lt_trichotomy i l.length with h1 | h1 | h1
    · rw [List.getElem?_append_left h1] at hy
      exact hP i y hy
    · subst h1
      rw [List.getElem?_append_right (Nat.le_refl _), Nat.sub_self] at hy
      simp at hy
      subst hy
      rw [hl]
      exact hx
    · rw [List.getElem?_eq_none (by simp; omega)] at hy
      cases hy

theorem open_nd {fuel : Nat} {cs : List Value} {x : DataW H × List MemPlace} (h : DataW.trod enc Tryd.prog w base spare held fuel 49 cs = some x) : ∃ t : Nd, cs = encN t ∧ t.2.1.size ≤ maxLen := by
  obtain ⟨y0, y1, y2, n, _, hl, h0, h1, h2⟩ := trod_struct3 Tryd.underlying49 h
  have hC : Tryd.prog.cellsOf 3 = 1 := by kernel_rfl
  have hS : Tryd.prog.cellsOf 9 = 1 := by kernel_rfl
  have hC3 : Tryd.prog.cellsOf 49 = 3 := by kernel_rfl
  rw [hC3] at hl
  match cs, hl with
  | [c0, c1, c2], _ =>
    obtain ⟨a, e0, _⟩ := DataW.trod_int Tryd.underlying3 h0
    obtain ⟨b, e1, _, hb⟩ := DataW.trod_string Tryd.underlying9 h1
    obtain ⟨c, e2, _⟩ := DataW.trod_int Tryd.underlying3 h2
    simp [hC, hS] at e0 e1 e2
    exact ⟨(a, b, c), by rw [e0, e1, e2]; rfl, hb⟩

theorem flatN (l : List Nd) : ∀ (j : Nat) (u : Value), (l.flatMap encN)[j]? = some u → ∃ t, l[j / 3]? = some t ∧ (encN t)[j % 3]? = some u := by
  induction l with
  | nil => intro j u h; simp at h
  | cons a r ih =>
    intro j u h
    rw [List.flatMap_cons] at h
    by_cases hj : j < 3
    · rw [List.getElem?_append_left (by simpa [encN] using hj)] at h
      exact ⟨a, by rw [Nat.div_eq_of_lt hj]; rfl, by rw [Nat.mod_eq_of_lt hj]; exact h⟩
    · rw [List.getElem?_append_right (by simp [encN]; omega)] at h
      obtain ⟨t, h1, h2⟩ := ih (j - 3) u h
      refine ⟨t, ?_, ?_⟩
      · rw [show j / 3 = (j - 3) / 3 + 1 by omega]; simpa using h1
      · rw [show j % 3 = (j - 3) % 3 by omega]; exact h2

theorem cells_rn {A : Option Addr} {c : Nat} {l : List Nd} (hm : l.length ≤ maxLen) (hc : Cells w A (l.flatMap encN)) : RSl RN 3 w (.slice A l.length c) l := by
  refine ⟨A, c, l.map encN, rfl, hm, by simp, fun cs h => ?_, by rw [flat_encN]; exact hc, fun i cs x h1 h2 => ?_⟩
  · obtain ⟨x, _, rfl⟩ := List.mem_map.1 h
    rfl
  · rw [List.getElem?_map, h2] at h1
    injection h1 with h1
    exact h1.symm

theorem open_nds {fuel : Nat} {cs : List Value} {x : DataW H × List MemPlace} (h : DataW.trod enc Tryd.prog w base spare held fuel 22 cs = some x) : ∃ v l, cs = [v] ∧ RSl RN 3 w v l ∧ ∀ t ∈ l, t.2.1.size ≤ maxLen := by
  rcases open_slice Tryd.underlying22 h with ⟨hcs, _⟩ | ⟨a, len, cap, m, n, D, Pl, hcs, _, hl, hm, hmm, _, hi⟩
  · exact ⟨_, [], hcs, cells_rn (l := []) (c := 0) (Nat.zero_le _) (Cells.nil _ none), fun t h => by cases h⟩
  · have hml : len ≤ m := by rw [hmm]; split <;> omega
    have hC3 : Tryd.prog.cellsOf 49 = 3 := by kernel_rfl
    rw [hC3] at hi
    obtain ⟨l, hll, hx⟩ := exists_list' (P := fun i (t : Nd) => t.2.1.size ≤ maxLen ∧ ∀ r u, (encN t)[r]? = some u → w.cell? ((a.add (i * 3)).add r) = some u) len (fun i hi' => by
      obtain ⟨cs', h1, h2⟩ := hi i (by omega)
      obtain ⟨t, e, hb⟩ := open_nd h2
      subst e
      obtain ⟨_, hlen, hc⟩ := World.cells?_some h1
      exact ⟨t, hb, fun r u hr => by rw [hc r (by have := (List.getElem?_eq_some_iff.1 hr).1; simpa [encN] using this)]; exact hr⟩)
    refine ⟨_, l, hcs, ?_, fun t ht => ?_⟩
    · have := cells_rn (w := w) (A := some a) (c := cap) (l := l) (by omega) (Cells.of_add fun j u hj => ?_)
      · rwa [hll] at this
      · obtain ⟨t, h1, h2⟩ := flatN l j u hj
        have := (hx (j / 3) t h1).2 (j % 3) u h2
        rw [Go.Deep.add_add] at this
        rwa [show j / 3 * 3 + j % 3 = j by omega] at this
    · obtain ⟨i, hi', e⟩ := List.getElem_of_mem ht
      exact (hx i t (by rw [List.getElem?_eq_getElem hi', e])).1

theorem open_Process {r : Reach} {b0 : Nat} {v : Value} {d : DataW H} {p : List MemPlace} (hv : Value.okWide Tryd.prog w r b0 24 v) (h : DataW.Trod enc Tryd.prog w base spare held 24 v d p) :
    ∃ l, RProc w v l ∧ ∀ t ∈ l, t.2.1.size ≤ maxLen := by
  obtain ⟨cs, rfl, hsz⟩ := okWide_struct Tryd.underlying24 hv
  obtain ⟨fuel, hf⟩ := h
  obtain ⟨y0, n, _, hl, h0⟩ := trod_struct1 Tryd.underlying24 hf
  have hC : Tryd.prog.cellsOf 24 = 1 := by kernel_rfl
  have hS : Tryd.prog.cellsOf 22 = 1 := by kernel_rfl
  rw [hC] at hsz
  obtain ⟨c0, rfl⟩ : ∃ c0, cs = #[c0] := by
    match cs, hsz with
    | ⟨[c0]⟩, _ => exact ⟨c0, rfl⟩
  obtain ⟨u, l, e, hr, hb⟩ := open_nds h0
  simp [hS, Value.cells] at e
  exact ⟨l, ⟨u, by rw [e], hr⟩, hb⟩
end

end Go.Proofs.YtoofnicpjgmneaaDoor
