/- Labelled systems in memory, as read: slices of slices of ints, slices of triples; the sizes that the law package reckons. Labelled systems copied and compared: the law package's helpers. Labelled systems of a call's own: copied, marked, asked for the mark. Marks: memory of a call's own is written over with numbers that rise, and asked for them. []int and [][]int. -/
import Derived.Test.YtdgnhfhaaghoaaaGreatDoorProg
import Derived.Test.YtdgnhfhaaghoaaaGreatDoorJ0
import Derived.Handy
import Derived.StillTailTactics
set_option linter.unusedSimpArgs false
set_option linter.unusedVariables false
namespace Go.Proofs.YtdgnhfhaaghoaaaGreatDoor
open Go.RowKit

def RI (w : World) (v : Value) (xs : List Int) : Prop := ∃ A c, v = .slice A xs.length c ∧ xs.length ≤ maxLen ∧ Cells w A (ints xs)

def RSS (w : World) (v : Value) (xss : List (List Int)) : Prop :=
  ∃ A c vs, v = .slice A xss.length c ∧ xss.length ≤ maxLen ∧ vs.length = xss.length ∧ Cells w A vs ∧ ∀ (i : Nat) u xs, vs[i]? = some u → xss[i]? = some xs → RI w u xs

abbrev I3 := Int × Int × Int
def tri (t : I3) : List Value := [.int .i64 t.1, .int .i64 t.2.1, .int .i64 t.2.2]
def RA3 (w : World) (v : Value) (l : List I3) : Prop := ∃ A c, v = .slice A l.length c ∧ l.length ≤ maxLen ∧ Cells w A (l.flatMap tri)

structure Lab where
  shows : List (List Int)
  steps : List I3
def RLab (w : World) (v : Value) (l : Lab) : Prop := ∃ sv tv, v = .agg #[sv, tv] ∧ RSS w sv l.shows ∧ RA3 w tv l.steps

section
variable {w w' : World}
theorem RI.below {v : Value} {xs : List Int} (h : RI w v xs) (hb : Below w.heap.size w w') : RI w' v xs := by
  obtain ⟨A, c, e, hm, hc⟩ := h
  exact ⟨A, c, e, hm, hc.below hb⟩
theorem RSS.below {v : Value} {xss : List (List Int)} (h : RSS w v xss) (hb : Below w.heap.size w w') : RSS w' v xss := by
  obtain ⟨A, c, vs, e, hm, hl, hc, hi⟩ := h
  exact ⟨A, c, vs, e, hm, hl, hc.below hb, fun i u xs h1 h2 => (hi i u xs h1 h2).below hb⟩
theorem RA3.below {v : Value} {l : List I3} (h : RA3 w v l) (hb : Below w.heap.size w w') : RA3 w' v l := by
  obtain ⟨A, c, e, hm, hc⟩ := h
  exact ⟨A, c, e, hm, hc.below hb⟩
theorem RLab.below {v : Value} {l : Lab} (h : RLab w v l) (hb : Below w.heap.size w w') : RLab w' v l := by
  obtain ⟨sv, tv, e, hs, ht⟩ := h
  exact ⟨sv, tv, e, hs.below hb, ht.below hb⟩
end

end Go.Proofs.YtdgnhfhaaghoaaaGreatDoor

set_option linter.unusedVariables false
namespace Go.Proofs.YtdgnhfhaaghoaaaGreatDoor
open Go.RowKit

/-- The rows are short enough for the compare's contract. -/
def Small (xss : List (List Int)) : Prop := ∀ xs ∈ xss, xs.length ≤ 16777216

theorem tri_at (l : List I3) : ∀ (k : Nat) (t : I3), l[k]? = some t → (l.flatMap tri)[k * 3]? = some (.int .i64 t.1) ∧ (l.flatMap tri)[k * 3 + 1]? = some (.int .i64 t.2.1) ∧ (l.flatMap tri)[k * 3 + 2]? = some (.int .i64 t.2.2) := by
  induction l with
  | nil => intro k t h; simp at h
  | cons a r ih =>
    intro k t h
    cases k with
    | zero =>
      simp at h
      subst h
      simp [tri]
    | succ k =>
      have := ih k t (by simpa using h)
      have e0 : (k + 1) * 3 = k * 3 + 3 := by omega
      have e1 : k * 3 + 3 + 1 = k * 3 + 1 + 3 := by omega
      have e2 : k * 3 + 3 + 2 = k * 3 + 2 + 3 := by omega
      rw [e0, e1, e2]
      simp only [List.flatMap_cons, tri]
      exact this

theorem RA3.at_ {w : World} {v : Value} {l : List I3} (h : RA3 w v l) {k : Nat} {t : I3} (hk : l[k]? = some t) :
    ∃ b o c, v = .slice (some ⟨b, o, none⟩) l.length c ∧ w.cell? ⟨b, o + k * 3, none⟩ = some (.int .i64 t.1) ∧ w.cell? ⟨b, o + k * 3 + 1, none⟩ = some (.int .i64 t.2.1) ∧ w.cell? ⟨b, o + k * 3 + 2, none⟩ = some (.int .i64 t.2.2) := by
  obtain ⟨A, c, rfl, _, hc⟩ := h
  obtain ⟨h0, h1, h2⟩ := tri_at l k t hk
  obtain ⟨b, o, rfl, hcc⟩ := hc.at_ (List.getElem?_eq_some_iff.1 h0).1
  exact ⟨b, o, c, rfl, hcc _ _ h0, hcc _ _ h1, hcc _ _ h2⟩

/-- The sizes for which the law package's helpers have their contracts. -/
def SmallLab (l : Lab) : Prop := l.shows.length ≤ 16777216 ∧ l.steps.length ≤ 16777216 ∧ Small l.shows

end Go.Proofs.YtdgnhfhaaghoaaaGreatDoor

set_option linter.unusedVariables false
namespace Go.Proofs.YtdgnhfhaaghoaaaGreatDoor
open Go.RowKit

/-- A slice of slices that may be written, no two rows in one block. -/
def OwnSS (w : World) (S : Nat → Prop) (v : Value) (xss : List (List Int)) : Prop :=
  ∃ (vs : List Value) (S0 : Nat → Prop) (T : Nat → Nat → Prop), Own w S0 v xss.length vs ∧ vs.length = xss.length ∧
    (∀ (i : Nat) u xs, vs[i]? = some u → xss[i]? = some xs → Own w (T i) u xs.length (ints xs)) ∧
    (∀ b, S0 b → S b) ∧ (∀ i b, T i b → S b ∧ ¬ S0 b) ∧ (∀ i j b, T i b → T j b → i = j)

def OwnLab (w : World) (S : Nat → Prop) (v : Value) (l : Lab) : Prop :=
  ∃ (sv tv : Value) (S1 S2 : Nat → Prop), v = .agg #[sv, tv] ∧ OwnSS w S1 sv l.shows ∧ Own w S2 tv l.steps.length (l.steps.flatMap tri) ∧
    (∀ b, S1 b → S b) ∧ (∀ b, S2 b → S b) ∧ (∀ b, S1 b → ¬ S2 b)

section
variable {w w' : World} {S T : Nat → Prop} {v : Value}

theorem Own.ri {xs : List Int} (h : Own w S v xs.length (ints xs)) (hn : xs.length ≤ maxLen) : RI w v xs := by
  obtain ⟨A, c, e, hc⟩ := h.cells
  exact ⟨A, c, e, hn, hc⟩
theorem Own.ra3 {l : List I3} (h : Own w S v l.length (l.flatMap tri)) (hn : l.length ≤ maxLen) : RA3 w v l := by
  obtain ⟨A, c, e, hc⟩ := h.cells
  exact ⟨A, c, e, hn, hc⟩
theorem OwnSS.rss {xss : List (List Int)} (h : OwnSS w S v xss) (hn : xss.length ≤ maxLen) (hs : ∀ xs ∈ xss, xs.length ≤ maxLen) : RSS w v xss := by
  obtain ⟨vs, S0, T, h0, hl, hi, _⟩ := h
  obtain ⟨A, c, e, hc⟩ := h0.cells
  exact ⟨A, c, vs, e, hn, hl, hc, fun i u xs h1 h2 => (hi i u xs h1 h2).ri (hs xs (List.mem_of_getElem? h2))⟩
theorem le_maxLen {n : Nat} (h : n ≤ 16777216) : n ≤ maxLen := by unfold maxLen; omega
theorem OwnSS.form {xss : List (List Int)} (h : OwnSS w S v xss) : ∃ A c, v = .slice A xss.length c := by
  obtain ⟨vs, S0, T, ⟨A, c, e, _⟩, _⟩ := h
  exact ⟨A, c, e⟩
theorem OwnLab.rlab {l : Lab} (h : OwnLab w S v l) (hs : SmallLab l) : RLab w v l := by
  obtain ⟨sv, tv, S1, S2, e, h1, h2, _⟩ := h
  exact ⟨sv, tv, e, h1.rss (le_maxLen hs.1) (fun xs hx => le_maxLen (hs.2.2 xs hx)), h2.ra3 (le_maxLen hs.2.1)⟩

theorem OwnSS.kept {xss : List (List Int)} (h : OwnSS w S v xss) (hk : Kept T w w') (hd : ∀ b, S b → ¬ T b) : OwnSS w' S v xss := by
  obtain ⟨vs, S0, R, h0, hl, hi, a1, a2, a3⟩ := h
  exact ⟨vs, S0, R, h0.kept hk (fun b hb => hd b (a1 b hb)), hl, fun i u xs h1 h2 => (hi i u xs h1 h2).kept hk (fun b hb => hd b (a2 i b hb).1), a1, a2, a3⟩
theorem OwnSS.mono {xss : List (List Int)} (h : OwnSS w S v xss) (hs : ∀ b, S b → T b) : OwnSS w T v xss := by
  obtain ⟨vs, S0, R, h0, hl, hi, a1, a2, a3⟩ := h
  exact ⟨vs, S0, R, h0, hl, hi, fun b hb => hs b (a1 b hb), fun i b hb => ⟨hs b (a2 i b hb).1, (a2 i b hb).2⟩, a3⟩
theorem OwnLab.kept {l : Lab} (h : OwnLab w S v l) (hk : Kept T w w') (hd : ∀ b, S b → ¬ T b) : OwnLab w' S v l := by
  obtain ⟨sv, tv, S1, S2, e, h1, h2, a1, a2, a3⟩ := h
  exact ⟨sv, tv, S1, S2, e, h1.kept hk (fun b hb => hd b (a1 b hb)), h2.kept hk (fun b hb => hd b (a2 b hb)), a1, a2, a3⟩
theorem OwnLab.below {B : Nat} {l : Lab} (h : OwnLab w S v l) (hb : Below B w w') (hB : w.heap.size ≤ B) : OwnLab w' S v l :=
  h.kept (T := fun _ => False) ⟨hb.os, hb.tape, hb.output, hb.size, fun b hb' _ => hb.block b (by omega)⟩ (fun _ _ k => k)
theorem OwnSS.below {B : Nat} {l : List (List Int)} (h : OwnSS w S v l) (hb : Below B w w') (hB : w.heap.size ≤ B) : OwnSS w' S v l :=
  h.kept (T := fun _ => False) ⟨hb.os, hb.tape, hb.output, hb.size, fun b hb' _ => hb.block b (by omega)⟩ (fun _ _ k => k)
end

theorem tri_len (l : List I3) : (l.flatMap tri).length = l.length * 3 := by
  induction l with
  | nil => rfl
  | cons a r ih => rw [List.flatMap_cons, List.length_append, ih]; simp [tri]; omega

end Go.Proofs.YtdgnhfhaaghoaaaGreatDoor

set_option linter.unusedVariables false
set_option linter.unusedVariables false
namespace Go.Proofs.YtdgnhfhaaghoaaaGreatDoor
open Go.RowKit

/-- n numbers from k on. -/
def up (k : Int) (n : Nat) : List Int := (List.range n).map fun (i : Nat) => k + (i : Int)
def marks : Int → List (List Int) → List (List Int)
  | _, [] => []
  | k, xs :: r => up k xs.length :: marks (k + xs.length) r

end Go.Proofs.YtdgnhfhaaghoaaaGreatDoor
