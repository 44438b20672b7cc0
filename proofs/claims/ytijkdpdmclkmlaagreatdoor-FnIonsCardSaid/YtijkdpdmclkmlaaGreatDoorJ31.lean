/- A list without neighbours that are the same: plain. Marks: memory of a call's own is written over with numbers that rise, and asked for them. []int and [][]int. -/
import Derived.Test.YtijkdpdmclkmlaaGreatDoorJ4
import Derived.Lib.SliceRun
import Derived.Test.YtijkdpdmclkmlaaGreatDoorProg
import Derived.Test.YtijkdpdmclkmlaaGreatDoorJ5
import Derived.Handy
import Derived.StillTailTactics
import Derived.Test.YtijkdpdmclkmlaaGreatDoorJ0
set_option linter.unusedSimpArgs false
set_option linter.unusedVariables false
set_option maxRecDepth 100000
set_option maxHeartbeats 16000000
namespace Go.Proofs.YtijkdpdmclkmlaaGreatDoor
open Go.RowKit
section
variable {α : Type} [DecidableEq α] (z : α)
def keepC (l : List α) (i : Nat) : Bool := i == 0 || !decide (l.getD i z = l.getD (i - 1) z)
/-- The first m elements without those that are the same as the one before. -/
def compC (l : List α) (m : Nat) : List α := ((List.range m).filter (keepC z l)).map fun i => l.getD i z
def mixC (l : List α) (m : Nat) : List α := compC z l m ++ l.drop (compC z l m).length
variable {z}
theorem compC_yes {l : List α} {m : Nat} (h : keepC z l m = true) : compC z l (m + 1) = compC z l m ++ [l.getD m z] := by
  unfold compC
  rw [List.range_succ, List.filter_append, List.filter_cons, h, List.map_append]
  rfl
theorem compC_no {l : List α} {m : Nat} (h : keepC z l m = false) : compC z l (m + 1) = compC z l m := by
  unfold compC
  rw [List.range_succ, List.filter_append, List.filter_cons, h]
  simp
theorem compC_len (l : List α) (m : Nat) : (compC z l m).length ≤ m := by
  unfold compC
  rw [List.length_map]
  exact Nat.le_trans (List.length_filter_le _ _) (by simp)
theorem compC_one (l : List α) (h : 1 ≤ l.length) : compC z l 1 = l.take 1 := by
  cases l with
  | nil => simp at h
  | cons a l => simp [compC, keepC]
theorem compC_take {l : List α} {k : Nat} (hk : k ≤ l.length) (h : compC z l k = l.take k) (hl : k < l.length) (hy : keepC z l k = true) : compC z l (k + 1) = l.take (k + 1) := by
  rw [compC_yes hy, h, List.take_succ_eq_append_getElem hl]
  simp [List.getD, hl]
theorem mixC_start {l : List α} {k : Nat} (h : compC z l k = l.take k) (hl : k < l.length) (hn : keepC z l k = false) : mixC z l (k + 1) = l := by
  unfold mixC
  rw [compC_no hn, h, List.length_take, Nat.min_eq_left (by omega), List.take_append_drop]
theorem mixC_len {l : List α} {m : Nat} (hm : m ≤ l.length) : (mixC z l m).length = l.length := by
  unfold mixC
  have := compC_len (z := z) l m
  rw [List.length_append, List.length_drop]
  omega
theorem mixC_at {l : List α} {m j : Nat} (h : (compC z l m).length ≤ j) : (mixC z l m)[j]? = l[j]? := by
  unfold mixC
  rw [List.getElem?_append_right h, List.getElem?_drop]
  congr 1
  omega
theorem mixC_no {l : List α} {m : Nat} (h : keepC z l m = false) : mixC z l (m + 1) = mixC z l m := by
  unfold mixC
  rw [compC_no h]
theorem mixC_yes {l : List α} {m : Nat} (hm : m < l.length) (h : keepC z l m = true) : (mixC z l m).set (compC z l m).length (l.getD m z) = mixC z l (m + 1) := by
  have hl := compC_len (z := z) l m
  unfold mixC
  have hd : l.drop (compC z l m).length = l[(compC z l m).length]'(by omega) :: l.drop ((compC z l m).length + 1) := List.drop_eq_getElem_cons (by omega)
  rw [compC_yes h, List.set_append_right _ _ (Nat.le_refl _), Nat.sub_self, hd, List.set_cons_zero, List.length_append]
  simp only [List.length_cons, List.length_nil, Nat.zero_add, List.append_assoc, List.cons_append, List.nil_append]
theorem mixC_take {l : List α} {m : Nat} : (mixC z l m).take (compC z l m).length = compC z l m := by
  unfold mixC
  simp
theorem compC_step (l : List α) (m : Nat) : (compC z l (m + 1)).length = (compC z l m).length + if keepC z l m then 1 else 0 := by
  cases h : keepC z l m
  · rw [compC_no h]; rfl
  rw [compC_yes h]; simp
theorem compC_mem {l : List α} {x : α} : x ∈ compC z l l.length ↔ x ∈ l := by
  unfold compC
  simp only [List.mem_map, List.mem_filter, List.mem_range]
  constructor
  · rintro ⟨i, ⟨hi, _⟩, rfl⟩
    simp [List.getD, hi]
  intro hx
  obtain ⟨i, hi, rfl⟩ := List.getElem_of_mem hx
  induction i using Nat.strongRecOn with
  | ind i ih =>
    cases h : keepC z l i
    · unfold keepC at h
      simp only [Bool.or_eq_false_iff, beq_eq_false_iff_ne, ne_eq, Bool.not_eq_false', decide_eq_true_eq] at h
      obtain ⟨j, hj, e⟩ := ih (i - 1) (by omega) (by omega) (List.getElem_mem (by omega))
      refine ⟨j, hj, e.trans ?_⟩
      have := h.2
      simp only [List.getD, hi, show i - 1 < l.length by omega, List.getElem?_eq_getElem, Option.getD_some] at this
      exact this.symm
    exact ⟨i, ⟨hi, h⟩, by simp [List.getD, hi]⟩
/-- A list in order gives one that is strictly in order. -/
theorem compC_strict {R : α → α → Prop} {S : α → α → Prop} (hRS : ∀ a b, R a b → a ≠ b → S a b) (hS : ∀ a b c, R a b → S b c → S a c) {l : List α} (h : l.Pairwise R) (hr : ∀ a, R a a) : (compC z l l.length).Pairwise S := by
  unfold compC
  rw [List.pairwise_map]
  have h0 : ((List.range l.length).filter (keepC z l)).Pairwise (fun a b => a < b ∧ b < l.length ∧ keepC z l b = true) := by
    have h1 := (List.pairwise_lt_range (n := l.length)).filter (keepC z l)
    rw [List.pairwise_iff_getElem] at h1 ⊢
    intro i j hi hj hij
    have hm := List.getElem_mem hj
    rw [List.mem_filter, List.mem_range] at hm
    exact ⟨h1 i j hi hj hij, hm.1, hm.2⟩
  refine h0.imp ?_
  rintro a b ⟨hab, hb, hk⟩
  unfold keepC at hk
  simp only [Bool.or_eq_true, beq_iff_eq, Bool.not_eq_true', decide_eq_false_iff_not] at hk
  have hb1 : b - 1 < l.length := by omega
  rcases hk with hk | hk
  · omega
  simp only [List.getD, hb, hb1, show a < l.length by omega, List.getElem?_eq_getElem, Option.getD_some] at hk ⊢
  have hlt : R l[b - 1] l[b] := (List.pairwise_iff_getElem.1 h) _ _ hb1 hb (by omega)
  have hs := hRS _ _ hlt (fun e => hk e.symm)
  by_cases e : a = b - 1
  · subst e; exact hs
  exact hS _ _ _ ((List.pairwise_iff_getElem.1 h) a (b - 1) (by omega) hb1 (by omega)) hs
end

theorem setL_take {α : Type} : ∀ (cs l : List α) (i j : Nat), j ≤ i → (setL l i cs).take j = l.take j
  | [], _, _, _, _ => rfl
  | c :: cs, l, i, j, h => by rw [setL, setL_take cs _ _ _ (by omega), List.take_set_of_le h]
theorem owns_take {w : World} {B : Nat} {e : TypeId} {size g n c k : Nat} {xs : List Value} (h : w.ownsRow B e size (.slice (some ⟨g, 0, none⟩) n c) n xs) (hk : k ≤ n) : w.ownsRow B e size (.slice (some ⟨g, 0, none⟩) k c) k (xs.take (k * size)) := by
  have hl := h.1
  have hm := Nat.mul_le_mul_right size hk
  rcases h.2 with ⟨e1, _⟩ | ⟨g', cap, cur, e1, h1, h2, h3, h4, h5, h6⟩
  · cases e1
  cases e1
  refine ⟨by rw [List.length_take]; omega, .inr ⟨g, c, cur, rfl, h1, h2, by omega, h4, h5, ?_⟩⟩
  rw [← h6, List.take_take, Nat.min_eq_left hm]
theorem run_clear_rows {P : Program} (w : World) (t e ty : TypeId) (z : Value) (size : Nat) (ht : P.underlying t = some (.slice e)) (hv : ∀ w, (zeroValue e).run P w = .ok z w) (hz : z.cells.size = size) (h1 : ∀ v ∈ z.cells, v.oneCell' = true) (b o n c : Nat) (hn : 0 < n) (h0 : 0 < size)
    (hc : ∀ j, j < n * size → (w.cell? ⟨b, o + j, none⟩).isSome = true) (hf : ∀ j, j < n * size → w.frozen? ⟨b, o + j, none⟩ = false) :
    (Builtin.clear_ #[t] ty #[.slice (some ⟨b, o, none⟩) n c]).run P w = .ok (.tuple #[]) (w.setCells b o (Builtin.zeroCells z.cells n).toList) := by
  have hzl : (Builtin.zeroCells z.cells n).toList.length = n * size := by simp [Builtin.zeroCells, hz]
  have hz1 : ∀ v ∈ (Builtin.zeroCells z.cells n).toList, v.oneCell' = true := by
    intro v hv
    simp only [Builtin.zeroCells, Array.toList_map, List.mem_map] at hv
    obtain ⟨i, _, rfl⟩ := hv
    refine h1 _ ?_
    have hlt : i % z.cells.size < z.cells.size := Nat.mod_lt _ (by omega)
    simp [hlt]
  have hst := run_storeCells_cells (P := P) b o (Builtin.zeroCells z.cells n).toList 0 w (by rw [hzl]; simpa using hc) (by rw [hzl]; simpa using hf) hz1
  simp only [Nat.add_zero] at hst
  obtain ⟨m, rfl⟩ : ∃ m, n = m + 1 := ⟨n - 1, by omega⟩
  simp [Builtin.clear_, run_underlying ht, hv, hst]

/-- n numbers from k on. -/
def up (k : Int) (n : Nat) : List Int := (List.range n).map fun (i : Nat) => k + (i : Int)

end Go.Proofs.YtijkdpdmclkmlaaGreatDoor
