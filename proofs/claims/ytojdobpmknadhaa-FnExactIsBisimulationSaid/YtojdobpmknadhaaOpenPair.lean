/- An argument that is a slice of pairs, opened: from the form's reading to the words of XPair. -/
import Derived.Test.YtojdobpmknadhaaProg
import Derived.Test.YtojdobpmknadhaaPair
import Derived.Test.YtojdobpmknadhaaOpenLab
set_option linter.unusedVariables false
namespace Go.Proofs.Ytojdobpmknadhaa
open Go.RowKit Go.ChangeShapes Go.WideShapes Go.ChangeAt Go.Deep

section
variable {H : Type} {enc : TypeId × Value → H} {w : World} {base : Nat} {spare : Nat → Bool} {held : Bool}

theorem open_a2 {fuel : Nat} {cs : List Value} {x : DataW H × List MemPlace} (h : DataW.trod enc Try.prog w base spare held fuel 64 cs = some x) : ∃ t : I2, cs = duo t := by
  obtain ⟨xs, m, _, _, hl, hn, hi⟩ := DataW.trod_array Try.underlying64 h
  have hC : Try.prog.cellsOf 3 = 1 := by kernel_rfl
  have hC3 : Try.prog.cellsOf 64 = 2 := by kernel_rfl
  rw [hC3] at hl
  rw [hC] at hi
  match cs, hl, xs, hn with
  | [c0, c1], _, [y0, y1], _ =>
    obtain ⟨a, e0, _⟩ := DataW.trod_int Try.underlying3 (x := y0) (hi 0 (by omega))
    obtain ⟨b, e1, _⟩ := DataW.trod_int Try.underlying3 (x := y1) (hi 1 (by omega))
    simp at e0 e1
    exact ⟨(a, b), by rw [e0, e1]; rfl⟩

theorem flat2 (l : List I2) : ∀ (j : Nat) (u : Value), (l.flatMap duo)[j]? = some u → ∃ t, l[j / 2]? = some t ∧ (duo t)[j % 2]? = some u := by
  induction l with
  | nil => intro j u h; simp at h
  | cons a r ih =>
    intro j u h
    rw [List.flatMap_cons] at h
    by_cases hj : j < 2
    · rw [List.getElem?_append_left (by simpa [duo] using hj)] at h
      exact ⟨a, by rw [Nat.div_eq_of_lt hj]; rfl, by rw [Nat.mod_eq_of_lt hj]; exact h⟩
    · rw [List.getElem?_append_right (by simp [duo]; omega)] at h
      obtain ⟨t, h1, h2⟩ := ih (j - 2) u h
      refine ⟨t, ?_, ?_⟩
      · rw [show j / 2 = (j - 2) / 2 + 1 by omega]; simpa using h1
      · rw [show j % 2 = (j - 2) % 2 by omega]; exact h2

theorem open_ra2 {fuel : Nat} {cs : List Value} {x : DataW H × List MemPlace} (h : DataW.trod enc Try.prog w base spare held fuel 37 cs = some x) : ∃ v l, cs = [v] ∧ RA2 w v l := by
  rcases open_slice Try.underlying37 h with ⟨hcs, _⟩ | ⟨a, len, cap, m, n, D, Pl, hcs, _, hl, hm, hmm, _, hi⟩
  · exact ⟨_, [], hcs, none, 0, rfl, Nat.zero_le _, Cells.nil _ _⟩
  · have hml : len ≤ m := by rw [hmm]; split <;> omega
    have hC3 : Try.prog.cellsOf 64 = 2 := by kernel_rfl
    rw [hC3] at hi
    obtain ⟨l, hll, hx⟩ := exists_list (P := fun i (t : I2) => ∀ r u, (duo t)[r]? = some u → w.cell? ((a.add (i * 2)).add r) = some u) len (fun i hi' => by
      obtain ⟨cs', h1, h2⟩ := hi i (by omega)
      obtain ⟨t, e⟩ := open_a2 h2
      subst e
      obtain ⟨_, hlen, hc⟩ := World.cells?_some h1
      exact ⟨t, fun r u hr => by rw [hc r (by have := (List.getElem?_eq_some_iff.1 hr).1; simpa [duo] using this)]; exact hr⟩)
    refine ⟨_, l, hcs, some a, cap, by rw [hll], by omega, Cells.of_add fun j u hj => ?_⟩
    obtain ⟨t, h1, h2⟩ := flat2 l j u hj
    have := hx (j / 2) t h1 (j % 2) u h2
    rw [Go.Deep.add_add] at this
    rwa [show j / 2 * 2 + j % 2 = j by omega] at this

end

end Go.Proofs.Ytojdobpmknadhaa
