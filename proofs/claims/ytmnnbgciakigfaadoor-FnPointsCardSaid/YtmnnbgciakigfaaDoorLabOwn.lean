/- Labelled systems of a call's own: copied, marked, asked for the mark. -/
import Derived.Test.YtmnnbgciakigfaaDoorProg
import Derived.Test.YtmnnbgciakigfaaDoorLabTo
import Derived.Test.YtmnnbgciakigfaaDoorOwn
set_option linter.unusedVariables false
namespace Go.Proofs.YtmnnbgciakigfaaDoor
open Go.RowKit

/-- A slice of slices that may be written, no two rows in one block. -/
def OwnSS (w : World) (S : Nat → Prop) (v : Value) (xss : List (List Int)) : Prop :=
  ∃ (vs : List Value) (S0 : Nat → Prop) (T : Nat → Nat → Prop), Own w S0 v xss.length vs ∧ vs.length = xss.length ∧
    (∀ (i : Nat) u xs, vs[i]? = some u → xss[i]? = some xs → Own w (T i) u xs.length (ints xs)) ∧
    (∀ b, S0 b → S b) ∧ (∀ i b, T i b → S b ∧ ¬ S0 b) ∧ (∀ i j b, T i b → T j b → i = j)

def OwnLab (w : World) (S : Nat → Prop) (v : Value) (l : Lab) : Prop :=
  ∃ (sv tv : Value) (S1 S2 : Nat → Prop), v = .agg #[sv, tv] ∧ OwnSS w S1 sv l.shows ∧ Own w S2 tv l.steps.length (l.steps.flatMap tri) ∧
    (∀ b, S1 b → S b) ∧ (∀ b, S2 b → S b) ∧ (∀ b, S1 b → ¬ S2 b)

section
variable {w w' : World} {S T : Nat → Prop} {v : Value}

theorem Own.ri {xs : List Int} (h : Own w S v xs.length (ints xs)) (hn : xs.length ≤ maxLen) : RI w v xs := by
  obtain ⟨A, c, e, hc⟩ := h.cells
  exact ⟨A, c, e, hn, hc⟩
theorem Own.ra3 {l : List I3} (h : Own w S v l.length (l.flatMap tri)) (hn : l.length ≤ maxLen) : RA3 w v l := by
  obtain ⟨A, c, e, hc⟩ := h.cells
  exact ⟨A, c, e, hn, hc⟩
theorem OwnSS.rss {xss : List (List Int)} (h : OwnSS w S v xss) (hn : xss.length ≤ maxLen) (hs : ∀ xs ∈ xss, xs.length ≤ maxLen) : RSS w v xss := by
  obtain ⟨vs, S0, T, h0, hl, hi, _⟩ := h
  obtain ⟨A, c, e, hc⟩ := h0.cells
  exact ⟨A, c, vs, e, hn, hl, hc, fun i u xs h1 h2 => (hi i u xs h1 h2).ri (hs xs (List.mem_of_getElem? h2))⟩
theorem le_maxLen {n : Nat} (h : n ≤ 16777216) : n ≤ maxLen := by unfold maxLen; omega
theorem OwnSS.form {xss : List (List Int)} (h : OwnSS w S v xss) : ∃ A c, v = .slice A xss.length c := by
  obtain ⟨vs, S0, T, ⟨A, c, e, _⟩, _⟩ := h
  exact ⟨A, c, e⟩
theorem OwnLab.rlab {l : Lab} (h : OwnLab w S v l) (hs : SmallLab l) : RLab w v l := by
  obtain ⟨sv, tv, S1, S2, e, h1, h2, _⟩ := h
  exact ⟨sv, tv, e, h1.rss (le_maxLen hs.1) (fun xs hx => le_maxLen (hs.2.2 xs hx)), h2.ra3 (le_maxLen hs.2.1)⟩

theorem OwnSS.kept {xss : List (List Int)} (h : OwnSS w S v xss) (hk : Kept T w w') (hd : ∀ b, S b → ¬ T b) : OwnSS w' S v xss := by
  obtain ⟨vs, S0, R, h0, hl, hi, a1, a2, a3⟩ := h
  exact ⟨vs, S0, R, h0.kept hk (fun b hb => hd b (a1 b hb)), hl, fun i u xs h1 h2 => (hi i u xs h1 h2).kept hk (fun b hb => hd b (a2 i b hb).1), a1, a2, a3⟩
theorem OwnSS.mono {xss : List (List Int)} (h : OwnSS w S v xss) (hs : ∀ b, S b → T b) : OwnSS w T v xss := by
  obtain ⟨vs, S0, R, h0, hl, hi, a1, a2, a3⟩ := h
  exact ⟨vs, S0, R, h0, hl, hi, fun b hb => hs b (a1 b hb), fun i b hb => ⟨hs b (a2 i b hb).1, (a2 i b hb).2⟩, a3⟩
theorem OwnLab.kept {l : Lab} (h : OwnLab w S v l) (hk : Kept T w w') (hd : ∀ b, S b → ¬ T b) : OwnLab w' S v l := by
  obtain ⟨sv, tv, S1, S2, e, h1, h2, a1, a2, a3⟩ := h
  exact ⟨sv, tv, S1, S2, e, h1.kept hk (fun b hb => hd b (a1 b hb)), h2.kept hk (fun b hb => hd b (a2 b hb)), a1, a2, a3⟩
theorem OwnLab.below {B : Nat} {l : Lab} (h : OwnLab w S v l) (hb : Below B w w') (hB : w.heap.size ≤ B) : OwnLab w' S v l :=
  h.kept (T := fun _ => False) ⟨hb.os, hb.tape, hb.output, hb.size, fun b hb' _ => hb.block b (by omega)⟩ (fun _ _ k => k)
theorem OwnSS.below {B : Nat} {l : List (List Int)} (h : OwnSS w S v l) (hb : Below B w w') (hB : w.heap.size ≤ B) : OwnSS w' S v l :=
  h.kept (T := fun _ => False) ⟨hb.os, hb.tape, hb.output, hb.size, fun b hb' _ => hb.block b (by omega)⟩ (fun _ _ k => k)
end

theorem made3 (n : Nat) : (madeCells #[Value.int .i64 0, .int .i64 0, .int .i64 0] n).toList = List.replicate n (.int .i64 0) := by
  apply List.ext_getElem?
  intro j
  by_cases hj : j < n
  · have h3 : j % 3 < 3 := Nat.mod_lt _ (by omega)
    simp [madeCells, hj]
    rcases (show j % 3 = 0 ∨ j % 3 = 1 ∨ j % 3 = 2 by omega) with h | h | h <;> rw [h] <;> rfl
  · simp [madeCells, hj]

/-- What a loop has copied into a row of zero triples after k rounds. -/
def fillA (l : List I3) (k : Nat) : List Value := (l.take k).flatMap tri ++ List.replicate ((l.length - k) * 3) (.int .i64 0)

theorem tri_len (l : List I3) : (l.flatMap tri).length = l.length * 3 := by
  induction l with
  | nil => rfl
  | cons a r ih => rw [List.flatMap_cons, List.length_append, ih]; simp [tri]; omega

theorem fillA_len (l : List I3) (k : Nat) (h : k ≤ l.length) : (fillA l k).length = l.length * 3 := by
  unfold fillA
  rw [List.length_append, tri_len, List.length_take, List.length_replicate]
  omega

theorem fillA_set (l : List I3) (k : Nat) (t : I3) (h : l[k]? = some t) :
    (((fillA l k).set (k * 3) (.int .i64 t.1)).set (k * 3 + 1) (.int .i64 t.2.1)).set (k * 3 + 2) (.int .i64 t.2.2) = fillA l (k + 1) := by
  have hl := (List.getElem?_eq_some_iff.1 h).1
  have e1 : l.take (k + 1) = l.take k ++ [t] := by
    rw [List.take_succ_eq_append_getElem hl]
    rw [List.getElem?_eq_getElem hl] at h
    injection h with h
    rw [h]
  have e2 : (l.length - k) * 3 = (l.length - (k + 1)) * 3 + 1 + 1 + 1 := by omega
  have e3 : ((l.take k).flatMap tri).length = k * 3 := by rw [tri_len, List.length_take]; omega
  unfold fillA
  rw [e1, e2, List.flatMap_append, List.replicate_succ, List.replicate_succ, List.replicate_succ]
  generalize (l.take k).flatMap tri = P at e3
  rw [List.set_append_right _ _ (by omega), List.set_append_right _ _ (by omega), List.set_append_right _ _ (by omega), e3]
  simp [tri, List.set_cons_succ, show k * 3 + 1 - k * 3 = 1 by omega, show k * 3 + 2 - k * 3 = 2 by omega]

theorem fillA_at (l : List I3) (k j : Nat) (h : k < l.length) (hj : j < 3) : (fillA l k)[k * 3 + j]? = some (.int .i64 0) := by
  unfold fillA
  have e3 : ((l.take k).flatMap tri).length = k * 3 := by rw [tri_len, List.length_take]; omega
  rw [List.getElem?_append_right (by omega), e3, List.getElem?_replicate, if_pos (by omega)]

end Go.Proofs.YtmnnbgciakigfaaDoor
