/- An argument that is a system of bigraphs, opened: from the form's reading to the words of XSys. -/
import Derived.Test.YtlgdmafgbmnjdaaProg
import Derived.Test.YtlgdmafgbmnjdaaSys
import Derived.Test.YtlgdmafgbmnjdaaOpenLab
import Derived.OpenShut
import Derived.Deep.Slices
import Derived.Deep.Strs
import Derived.ChangeSame
import Derived.Lib.SmallJoins
set_option linter.unusedVariables false
namespace Go.Proofs.Ytlgdmafgbmnjdaa
open Go.RowKit Go.ChangeShapes Go.WideShapes Go.ChangeAt Go.Deep

theorem flat_inv {α : Type} {sz : Nat} (h0 : 0 < sz) : ∀ {css : List (List α)}, (∀ cs ∈ css, cs.length = sz) → ∀ {j : Nat} {u : α}, css.flatten[j]? = some u → ∃ cs, css[j / sz]? = some cs ∧ cs[j % sz]? = some u
  | [], _, j, u, h => by simp at h
  | c0 :: css, hl, j, u, h => by
    have hc : c0.length = sz := hl c0 (by simp)
    rw [List.flatten_cons] at h
    by_cases hj : j < sz
    · rw [List.getElem?_append_left (by omega)] at h
      exact ⟨c0, by rw [Nat.div_eq_of_lt hj]; rfl, by rw [Nat.mod_eq_of_lt hj]; exact h⟩
    · rw [List.getElem?_append_right (by omega), hc] at h
      obtain ⟨cs, h1, h2⟩ := flat_inv h0 (css := css) (fun cs h => hl cs (List.mem_cons_of_mem _ h)) h
      have e1 : j / sz = (j - sz) / sz + 1 := by
        rw [← Nat.sub_add_cancel (show sz ≤ j by omega), Nat.add_sub_cancel, Nat.add_div_right _ h0]
      have e2 : j % sz = (j - sz) % sz := by
        conv => lhs; rw [← Nat.sub_add_cancel (show sz ≤ j by omega)]
        rw [Nat.add_mod_right]
      refine ⟨cs, ?_, ?_⟩
      · rw [e1]; simpa using h1
      · rw [e2]; exact h2

section
variable {H : Type} {enc : TypeId × Value → H} {w : World} {base : Nat} {spare : Nat → Bool} {held : Bool}

set_option maxRecDepth 100000 in
theorem open_rsl {α : Type} {R : World → List Value → α → Prop} {t e : TypeId} {sz : Nat} (ht : Try.prog.underlying t = some (.slice e)) (hC : Try.prog.cellsOf e = sz) (h0 : 0 < sz)
    (he : ∀ (fuel : Nat) (cs : List Value) (x : DataW H × List MemPlace), DataW.trod enc Try.prog w base spare held fuel e cs = some x → cs.length = sz ∧ ∃ y, R w cs y)
    {fuel : Nat} {cs : List Value} {x : DataW H × List MemPlace} (h : DataW.trod enc Try.prog w base spare held fuel t cs = some x) : ∃ v l, cs = [v] ∧ RSl R sz w v l := by
  rcases open_slice ht h with ⟨hcs, _⟩ | ⟨a, len, cap, m, n, D, Pl, hcs, _, hl, hm, hmm, _, hi⟩
  · exact ⟨_, [], hcs, none, 0, [], rfl, Nat.zero_le _, rfl, (fun cs h => by cases h), Cells.nil _ _, fun i cs x h => by simp at h⟩
  · have hml : len ≤ m := by rw [hmm]; split <;> omega
    rw [hC] at hi
    obtain ⟨l, hll, hx⟩ := exists_list (P := fun i (p : List Value × α) => p.1.length = sz ∧ R w p.1 p.2 ∧ ∀ r u, p.1[r]? = some u → w.cell? ((a.add (i * sz)).add r) = some u) len (fun i hi' => by
      obtain ⟨cs', h1, h2⟩ := hi i (by omega)
      obtain ⟨hcl, y, hy⟩ := he _ _ _ h2
      obtain ⟨_, hlen, hc⟩ := World.cells?_some h1
      exact ⟨(cs', y), hcl, hy, fun r u hr => by rw [hc r (by have := (List.getElem?_eq_some_iff.1 hr).1; dsimp only at this; omega)]; exact hr⟩)
    have hsz : ∀ cs ∈ l.map Prod.fst, cs.length = sz := by
      intro cs hcs
      obtain ⟨p, hp, rfl⟩ := List.mem_map.1 hcs
      obtain ⟨i, hi', rfl⟩ := List.getElem_of_mem hp
      exact (hx i _ (List.getElem?_eq_getElem hi')).1
    refine ⟨_, l.map Prod.snd, hcs, some a, cap, l.map Prod.fst, by rw [List.length_map, hll], by rw [List.length_map]; omega, by simp, hsz, Cells.of_add fun j u hj => ?_, fun i cs y h1 h2 => ?_⟩
    · obtain ⟨cs', h1, h2⟩ := flat_inv h0 hsz hj
      rw [List.getElem?_map] at h1
      cases hp : l[j / sz]? with
      | none => rw [hp] at h1; cases h1
      | some p =>
        rw [hp] at h1
        injection h1 with h1
        subst h1
        have := (hx (j / sz) p hp).2.2 (j % sz) u h2
        rw [Go.Deep.add_add] at this
        rwa [show j / sz * sz + j % sz = j by rw [Nat.mul_comm]; exact Nat.div_add_mod j sz] at this
    · rw [List.getElem?_map] at h1 h2
      cases hp : l[i]? with
      | none => rw [hp] at h1; cases h1
      | some p =>
        rw [hp] at h1 h2
        injection h1 with h1
        injection h2 with h2
        subst h1 h2
        exact (hx i p hp).2.1

set_option maxRecDepth 100000 in
theorem open_bn (fuel : Nat) (cs : List Value) (x : DataW H × List MemPlace) (h : DataW.trod enc Try.prog w base spare held fuel 125 cs = some x) : cs.length = 3 ∧ ∃ y, RBN w cs y := by
  obtain ⟨y0, y1, y2, n, _, hl, h0, h1, h2⟩ := trod_struct3 Try.underlying125 h
  have hC : Try.prog.cellsOf 3 = 1 := by kernel_rfl
  have hS : Try.prog.cellsOf 26 = 1 := by kernel_rfl
  have hC3 : Try.prog.cellsOf 125 = 3 := by kernel_rfl
  rw [hC3] at hl
  match cs, hl with
  | [c0, c1, c2], _ =>
    obtain ⟨a, e0, _⟩ := DataW.trod_int Try.underlying3 h0
    obtain ⟨b, e1, _⟩ := DataW.trod_int Try.underlying3 h1
    obtain ⟨v, xs, e2, hr⟩ := open_ri h2
    simp [hC, hS] at e0 e1 e2
    exact ⟨rfl, (a, b, xs), v, by rw [e0, e1, e2], hr⟩

set_option maxRecDepth 100000 in
theorem open_bw (fuel : Nat) (cs : List Value) (x : DataW H × List MemPlace) (h : DataW.trod enc Try.prog w base spare held fuel 127 cs = some x) : cs.length = 2 ∧ ∃ y, RBW w cs y := by
  obtain ⟨y0, y1, n, _, hl, h0, h1⟩ := trod_struct2 Try.underlying127 h
  have hC : Try.prog.cellsOf 3 = 1 := by kernel_rfl
  have hS : Try.prog.cellsOf 9 = 1 := by kernel_rfl
  have hC3 : Try.prog.cellsOf 127 = 2 := by kernel_rfl
  rw [hC3] at hl
  match cs, hl with
  | [c0, c1], _ =>
    obtain ⟨a, e0, _, ha⟩ := DataW.trod_string Try.underlying9 h0
    obtain ⟨b, e1, _⟩ := DataW.trod_int Try.underlying3 h1
    simp [hC, hS] at e0 e1
    exact ⟨rfl, (a, b), by rw [e0, e1], ha⟩

set_option maxRecDepth 100000 in
theorem open_str (fuel : Nat) (cs : List Value) (x : DataW H × List MemPlace) (h : DataW.trod enc Try.prog w base spare held fuel 9 cs = some x) : cs.length = 1 ∧ ∃ y, RStr w cs y := by
  obtain ⟨a, e0, _, ha⟩ := DataW.trod_string Try.underlying9 h
  exact ⟨by rw [e0]; rfl, a, e0, ha⟩

set_option maxRecDepth 100000 in
theorem open_big (fuel : Nat) (cs : List Value) (x : DataW H × List MemPlace) (h : DataW.trod enc Try.prog w base spare held fuel 83 cs = some x) : cs.length = 6 ∧ ∃ y, RBig w cs y := by
  obtain ⟨xs, n, _, rfl, hl, hlen, hf⟩ := DataW.trod_struct Try.underlying83 h
  have hC : Try.prog.cellsOf 3 = 1 := by kernel_rfl
  have hN : Try.prog.cellsOf 79 = 1 := by kernel_rfl
  have hI : Try.prog.cellsOf 26 = 1 := by kernel_rfl
  have hO : Try.prog.cellsOf 80 = 1 := by kernel_rfl
  have hW : Try.prog.cellsOf 81 = 1 := by kernel_rfl
  have hC6 : Try.prog.cellsOf 83 = 6 := by kernel_rfl
  have cN : Try.prog.cellsOf 125 = 3 := by kernel_rfl
  have cW : Try.prog.cellsOf 127 = 2 := by kernel_rfl
  have cS : Try.prog.cellsOf 9 = 1 := by kernel_rfl
  rw [hC6] at hl
  match xs, hlen with
  | [y0, y1, y2, y3, y4, y5], _ =>
    match cs, hl with
    | [c0, c1, c2, c3, c4, c5], _ =>
      obtain ⟨a, e0, _⟩ := DataW.trod_int (x := y0) Try.underlying3 (by simpa using hf 0 _ rfl)
      obtain ⟨v1, l1, e1, r1⟩ := open_rsl (x := y1) Try.underlying79 cN (by omega) open_bn (by simpa using hf 1 _ rfl)
      obtain ⟨v2, l2, e2, r2⟩ := open_ri (x := y2) (by simpa using hf 2 _ rfl)
      obtain ⟨d, e3, _⟩ := DataW.trod_int (x := y3) Try.underlying3 (by simpa using hf 3 _ rfl)
      obtain ⟨v4, l4, e4, r4⟩ := open_rsl (x := y4) Try.underlying80 cS (by omega) open_str (by simpa using hf 4 _ rfl)
      obtain ⟨v5, l5, e5, r5⟩ := open_rsl (x := y5) Try.underlying81 cW (by omega) open_bw (by simpa using hf 5 _ rfl)
      simp [hC, hN, hI, hO, hW] at e0 e1 e2 e3 e4 e5
      exact ⟨rfl, (a, l1, l2, d, l4, l5), v1, v2, v4, v5, by rw [e0, e1, e2, e3, e4, e5], r1, r2, r4, r5⟩

set_option maxRecDepth 100000 in
theorem open_System {r : Reach} {b0 : Nat} {v : Value} {d : DataW H} {p : List MemPlace} (hv : Value.okWide Try.prog w r b0 25 v) (h : DataW.Trod enc Try.prog w base spare held 25 v d p) : ∃ l, RSys w v l := by
  obtain ⟨v0, v1, y0, y1, n, rfl, _, _, h0, h1⟩ := Joins.open_agg2 Try.underlying25 (by kernel_rfl) (by kernel_rfl) hv h
  obtain ⟨u0, xss, e0, hr0⟩ := open_rsl Try.underlying22 (show Try.prog.cellsOf 83 = 6 by kernel_rfl) (by omega) open_big h0
  obtain ⟨u1, l, e1, hr1⟩ := open_ra3 h1
  injection e0 with e0
  injection e1 with e1
  subst e0 e1
  exact ⟨⟨xss, l⟩, _, _, rfl, hr0, hr1⟩

end

end Go.Proofs.Ytlgdmafgbmnjdaa
