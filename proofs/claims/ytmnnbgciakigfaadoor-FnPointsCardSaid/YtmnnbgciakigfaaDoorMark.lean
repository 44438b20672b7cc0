/- Marks: memory of a call's own is written over with numbers that rise, and asked for them. []int and [][]int. -/
import Derived.Test.YtmnnbgciakigfaaDoorProg
import Derived.Test.YtmnnbgciakigfaaDoorLabOwn
import Derived.Handy
set_option linter.unusedVariables false
set_option linter.unusedVariables false
namespace Go.Proofs.YtmnnbgciakigfaaDoor
open Go.RowKit

/-- n numbers from k on. -/
def up (k : Int) (n : Nat) : List Int := (List.range n).map fun (i : Nat) => k + (i : Int)
theorem up_length (k : Int) (n : Nat) : (up k n).length = n := by simp [up]
theorem up_getD (k : Int) (n j : Nat) (h : j < n) : (up k n).getD j 0 = k + (j : Int) := by simp [up, List.getD, h]
/-- The first i numbers are marked. -/
def upTo (k : Int) (xs : List Int) (i : Nat) : List Int := up k i ++ xs.drop i
theorem upTo_length (k : Int) (xs : List Int) (i : Nat) (h : i ≤ xs.length) : (upTo k xs i).length = xs.length := by simp [upTo, up_length]; omega
theorem upTo_zero (k : Int) (xs : List Int) : upTo k xs 0 = xs := by simp [upTo, up]
theorem upTo_all (k : Int) (xs : List Int) : upTo k xs xs.length = up k xs.length := by simp [upTo]
theorem up_succ (k : Int) (n : Nat) : up k (n + 1) = up k n ++ [k + (n : Int)] := by simp [up, List.range_succ]
theorem upTo_set (k : Int) (xs : List Int) (i : Nat) (h : i < xs.length) : (ints (upTo k xs i)).set i (.int .i64 (k + (i : Int))) = ints (upTo k xs (i + 1)) := by
  have e : (upTo k xs i).set i (k + (i : Int)) = upTo k xs (i + 1) := by
    unfold upTo
    rw [List.set_append_right _ _ (by rw [up_length]; exact Nat.le_refl _), up_length, Nat.sub_self, List.drop_eq_getElem_cons h, up_succ]
    simp only [List.set_cons_zero, List.append_assoc, List.singleton_append]
  rw [← e]
  simp [ints, List.map_set]

def total (xss : List (List Int)) : Nat := (xss.map List.length).sum
def marks : Int → List (List Int) → List (List Int)
  | _, [] => []
  | k, xs :: r => up k xs.length :: marks (k + xs.length) r

theorem total_take (xss : List (List Int)) (j : Nat) (h : j < xss.length) : total (xss.take (j + 1)) = total (xss.take j) + xss[j].length := by
  unfold total
  rw [List.take_succ_eq_append_getElem h, List.map_append, List.sum_append]
  simp

theorem total_le (xss : List (List Int)) (j : Nat) : total (xss.take j) ≤ total xss := by
  unfold total
  conv => rhs; rw [← List.take_append_drop j xss]
  rw [List.map_append, List.sum_append]
  omega

theorem marks_length : ∀ (xss : List (List Int)) (k : Int), (marks k xss).length = xss.length
  | [], _ => rfl
  | xs :: r, k => by simp [marks, marks_length r]

theorem marks_at : ∀ (xss : List (List Int)) (k : Int) (i : Nat) (xs : List Int), xss[i]? = some xs → (marks k xss)[i]? = some (up (k + (total (xss.take i) : Nat)) xs.length)
  | [], _, _, _, h => by simp at h
  | ys :: r, k, 0, xs, h => by
    simp at h
    subst h
    simp [marks, total]
  | ys :: r, k, i + 1, xs, h => by
    have := marks_at r (k + ys.length) i xs (by simpa using h)
    simp only [marks, List.getElem?_cons_succ, this]
    congr 2
    simp [total]
    omega

def trips (k : Int) (n : Nat) : List I3 := (List.range n).map fun (i : Nat) => (k + 3 * (i : Int), k + 3 * (i : Int) + 1, k + 3 * (i : Int) + 2)
theorem trips_length (k : Int) (n : Nat) : (trips k n).length = n := by simp [trips]
theorem trips_succ (k : Int) (n : Nat) : trips k (n + 1) = trips k n ++ [(k + 3 * (n : Int), k + 3 * (n : Int) + 1, k + 3 * (n : Int) + 2)] := by simp [trips, List.range_succ]
theorem trips_at (k : Int) (n i : Nat) (h : i < n) : (trips k n)[i]? = some (k + 3 * (i : Int), k + 3 * (i : Int) + 1, k + 3 * (i : Int) + 2) := by simp [trips, h]

/-- The first i triples are marked. -/
def triTo (k : Int) (l : List I3) (i : Nat) : List Value := (trips k i).flatMap tri ++ (l.drop i).flatMap tri
theorem triTo_zero (k : Int) (l : List I3) : triTo k l 0 = l.flatMap tri := by simp [triTo, trips]
theorem triTo_all (k : Int) (l : List I3) : triTo k l l.length = (trips k l.length).flatMap tri := by simp [triTo]
theorem triTo_len (k : Int) (l : List I3) (i : Nat) (h : i ≤ l.length) : (triTo k l i).length = l.length * 3 := by
  unfold triTo
  rw [List.length_append, tri_len, tri_len, trips_length, List.length_drop]
  omega
theorem triTo_set (k : Int) (l : List I3) (i : Nat) (h : i < l.length) :
    (((triTo k l i).set (i * 3) (.int .i64 (k + 3 * (i : Int)))).set (i * 3 + 1) (.int .i64 (k + 3 * (i : Int) + 1))).set (i * 3 + 2) (.int .i64 (k + 3 * (i : Int) + 2)) = triTo k l (i + 1) := by
  have e3 : ((trips k i).flatMap tri).length = i * 3 := by rw [tri_len, trips_length]
  unfold triTo
  rw [List.drop_eq_getElem_cons h, trips_succ, List.flatMap_append, List.flatMap_cons]
  generalize (trips k i).flatMap tri = P at e3
  rw [List.set_append_right _ _ (by omega), List.set_append_right _ _ (by omega), List.set_append_right _ _ (by omega), e3]
  simp [tri, List.set_cons_succ, show i * 3 + 1 - i * 3 = 1 by omega, show i * 3 + 2 - i * 3 = 2 by omega]

def markLab (k : Int) (l : Lab) : Lab := ⟨marks k l.shows, trips (k + (total l.shows : Nat)) l.steps.length⟩
def sizeLab (l : Lab) : Int := (total l.shows : Nat) + 3 * (l.steps.length : Int)

theorem marks_small {xss : List (List Int)} (h : Small xss) (k : Int) : Small (marks k xss) := by
  intro ys hy
  obtain ⟨i, hi, rfl⟩ := List.getElem_of_mem hy
  have hi' : i < xss.length := by rw [marks_length] at hi; exact hi
  have h3 := marks_at xss k i _ (List.getElem?_eq_getElem hi')
  rw [List.getElem?_eq_getElem hi] at h3
  injection h3 with h3
  rw [h3, up_length]
  exact h _ (List.getElem_mem hi')
theorem markLab_small {l : Lab} (h : SmallLab l) (k : Int) : SmallLab (markLab k l) := by
  refine ⟨?_, ?_, marks_small h.2.2 k⟩
  · show (marks k l.shows).length ≤ _
    rw [marks_length]; exact h.1
  · show (trips (k + (total l.shows : Nat)) l.steps.length).length ≤ _
    rw [trips_length]; exact h.2.1

end Go.Proofs.YtmnnbgciakigfaaDoor
