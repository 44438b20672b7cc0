/- Labelled systems copied and compared: the law package's helpers. -/
import Derived.Test.YtmnnbgciakigfaaDoorProg
import Derived.Test.YtmnnbgciakigfaaDoorLab
import Derived.Handy
import Derived.StillTailTactics
set_option linter.unusedVariables false
namespace Go.Proofs.YtmnnbgciakigfaaDoor
open Go.RowKit

def same3 (t u : I3) : Bool := decide (t = u)

def sameSS (xss yss : List (List Int)) : Bool := decide (xss = yss)

theorem sameSS_len {xs ys : List (List Int)} (h : xs.length ≠ ys.length) : sameSS xs ys = false := by
  unfold sameSS; rw [decide_eq_false_iff_not]; intro e; exact h (by rw [e])
theorem sameSS_at {xs ys : List (List Int)} {k : Nat} {x y : List Int} (hx : xs[k]? = some x) (hy : ys[k]? = some y) (h : sameI x y = false) : sameSS xs ys = false := by
  unfold sameI at h
  unfold sameSS
  rw [decide_eq_false_iff_not] at h ⊢
  intro e
  subst e
  rw [hx] at hy
  injection hy with hy
  exact h hy
theorem sameSS_all {xs ys : List (List Int)} (hl : xs.length = ys.length) (h : ∀ (j : Nat) x y, xs[j]? = some x → ys[j]? = some y → sameI x y = true) : sameSS xs ys = true := by
  unfold sameSS
  rw [decide_eq_true_iff]
  apply List.ext_getElem hl
  intro i h1 h2
  simpa [sameI] using h i _ _ (List.getElem?_eq_getElem h1) (List.getElem?_eq_getElem h2)

/-- The rows are short enough for the compare's contract. -/
def Small (xss : List (List Int)) : Prop := ∀ xs ∈ xss, xs.length ≤ 16777216

def sameA3 (xs ys : List I3) : Bool := decide (xs = ys)

theorem sameA3_len {xs ys : List I3} (h : xs.length ≠ ys.length) : sameA3 xs ys = false := by
  unfold sameA3; rw [decide_eq_false_iff_not]; intro e; exact h (by rw [e])
theorem sameA3_at {xs ys : List I3} {k : Nat} {x y : I3} (hx : xs[k]? = some x) (hy : ys[k]? = some y) (h : same3 x y = false) : sameA3 xs ys = false := by
  unfold same3 at h
  unfold sameA3
  rw [decide_eq_false_iff_not] at h ⊢
  intro e
  subst e
  rw [hx] at hy
  injection hy with hy
  exact h hy
theorem sameA3_all {xs ys : List I3} (hl : xs.length = ys.length) (h : ∀ (j : Nat) x y, xs[j]? = some x → ys[j]? = some y → same3 x y = true) : sameA3 xs ys = true := by
  unfold sameA3
  rw [decide_eq_true_iff]
  apply List.ext_getElem hl
  intro i h1 h2
  simpa [same3] using h i _ _ (List.getElem?_eq_getElem h1) (List.getElem?_eq_getElem h2)

theorem tri_at (l : List I3) : ∀ (k : Nat) (t : I3), l[k]? = some t → (l.flatMap tri)[k * 3]? = some (.int .i64 t.1) ∧ (l.flatMap tri)[k * 3 + 1]? = some (.int .i64 t.2.1) ∧ (l.flatMap tri)[k * 3 + 2]? = some (.int .i64 t.2.2) := by
  induction l with
  | nil => intro k t h; simp at h
  | cons a r ih =>
    intro k t h
    cases k with
    | zero =>
      simp at h
      subst h
      simp [tri]
    | succ k =>
      have := ih k t (by simpa using h)
      have e0 : (k + 1) * 3 = k * 3 + 3 := by omega
      have e1 : k * 3 + 3 + 1 = k * 3 + 1 + 3 := by omega
      have e2 : k * 3 + 3 + 2 = k * 3 + 2 + 3 := by omega
      rw [e0, e1, e2]
      simp only [List.flatMap_cons, tri]
      exact this

theorem RA3.at_ {w : World} {v : Value} {l : List I3} (h : RA3 w v l) {k : Nat} {t : I3} (hk : l[k]? = some t) :
    ∃ b o c, v = .slice (some ⟨b, o, none⟩) l.length c ∧ w.cell? ⟨b, o + k * 3, none⟩ = some (.int .i64 t.1) ∧ w.cell? ⟨b, o + k * 3 + 1, none⟩ = some (.int .i64 t.2.1) ∧ w.cell? ⟨b, o + k * 3 + 2, none⟩ = some (.int .i64 t.2.2) := by
  obtain ⟨A, c, rfl, _, hc⟩ := h
  obtain ⟨h0, h1, h2⟩ := tri_at l k t hk
  obtain ⟨b, o, rfl, hcc⟩ := hc.at_ (List.getElem?_eq_some_iff.1 h0).1
  exact ⟨b, o, c, rfl, hcc _ _ h0, hcc _ _ h1, hcc _ _ h2⟩

def sameLab (a b : Lab) : Bool := sameSS a.shows b.shows && sameA3 a.steps b.steps

/-- The sizes for which the law package's helpers have their contracts. -/
def SmallLab (l : Lab) : Prop := l.shows.length ≤ 16777216 ∧ l.steps.length ≤ 16777216 ∧ Small l.shows

end Go.Proofs.YtmnnbgciakigfaaDoor
