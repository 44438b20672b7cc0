/- The saturated system is small: plain. -/
import Derived.Test.YtojdobpmknadhaaProg
import Derived.Test.YtojdobpmknadhaaSatuW
import Derived.Test.YtojdobpmknadhaaMark
set_option linter.unusedVariables false
namespace Go.Proofs.Ytojdobpmknadhaa
open Go.RowKit

theorem flat_len_le {α β : Type} {f : α → List β} {M : Nat} : ∀ {l : List α}, (∀ x ∈ l, (f x).length ≤ M) → (l.flatMap f).length ≤ l.length * M
  | [], _ => by simp
  | x :: l, h => by
    have h1 := h x (List.mem_cons_self)
    have ih := flat_len_le (l := l) fun y hy => h y (List.mem_cons_of_mem _ hy)
    rw [List.flatMap_cons, List.length_append, List.length_cons, Nat.succ_mul]
    omega
theorem totalZ_le {M : Nat} : ∀ {xss : List (List Int)}, (∀ xs ∈ xss, xs.length ≤ M) → total xss ≤ xss.length * M
  | [], _ => by simp [total]
  | xs :: r, h => by
    have h1 := h xs (List.mem_cons_self)
    have ih := totalZ_le (xss := r) fun y hy => h y (List.mem_cons_of_mem _ hy)
    unfold total at ih ⊢
    rw [List.map_cons, List.sum_cons, List.length_cons, Nat.succ_mul]
    omega
theorem satR_lens (l : Lab) : (satR l).shows.length ≤ 40 ∧ (satR l).steps.length ≤ 12800 ∧ ∀ xs ∈ (satR l).shows, xs.length ≤ 320 := by
  unfold satR
  split
  · rename_i hg
    have hl := lab_in hg
    have hm := hl.most
    rw [← satL_spec hg]
    refine ⟨by simpa using hm, ?_, ?_⟩
    · show (specSat l.shows.length l.steps).length ≤ 12800
      have h1 : ∀ i ∈ List.range l.shows.length, ((List.range 8).flatMap fun a => ((List.range l.shows.length).filter fun j => tabF l.shows.length l.steps a i j).map fun (j : Nat) => ((i : Int), (a : Int), (j : Int))).length ≤ 8 * 40 := fun i _ => by
        have h2 := flat_len_le (l := List.range 8) (M := 40) (f := fun (a : Nat) => ((List.range l.shows.length).filter fun j => tabF l.shows.length l.steps a i j).map fun (j : Nat) => ((i : Int), (a : Int), (j : Int))) (fun a _ => by
          rw [List.length_map]
          exact Nat.le_trans (List.length_filter_le _ _) (by simpa using hm))
        rwa [List.length_range] at h2
      have h3 := flat_len_le h1
      rw [List.length_range] at h3
      have h4 : l.shows.length * (8 * 40) ≤ 40 * (8 * 40) := Nat.mul_le_mul_right _ hm
      unfold specSat
      omega
    · intro xs hx
      rw [List.mem_map] at hx
      obtain ⟨i, hi, rfl⟩ := hx
      have hsl : (silL l.shows.length l.steps i).length ≤ l.shows.length := by
        unfold silL
        rw [List.length_map]
        exact Nat.le_trans (List.length_filter_le _ _) (by simp)
      have := unionsI_len (good_lab_rows hg) (silL l.shows.length l.steps i) []
      unfold specShow
      have h2 : (silL l.shows.length l.steps i).length * 8 ≤ 40 * 8 := Nat.mul_le_mul_right _ (by omega)
      rw [List.length_nil, Nat.zero_add] at this
      omega
  · exact ⟨by simp, by simp, fun xs hx => by simp at hx⟩
theorem small_satR (l : Lab) : SmallLab (satR l) := by
  obtain ⟨h1, h2, h3⟩ := satR_lens l
  exact ⟨by omega, by omega, fun xs hx => by have := h3 xs hx; omega⟩
theorem size_satR (l : Lab) : sizeLab (satR l) ≤ 4194304 := by
  obtain ⟨h1, h2, h3⟩ := satR_lens l
  have h4 := totalZ_le h3
  have h5 : (satR l).shows.length * 320 ≤ 40 * 320 := Nat.mul_le_mul_right _ h1
  unfold sizeLab
  omega

end Go.Proofs.Ytojdobpmknadhaa
