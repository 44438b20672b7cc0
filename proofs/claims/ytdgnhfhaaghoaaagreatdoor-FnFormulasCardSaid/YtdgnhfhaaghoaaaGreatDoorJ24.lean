/- What a valid labelled system is, said in plain words. No program is in sight. -/
import Derived.Test.YtdgnhfhaaghoaaaGreatDoorJ23
import Derived.Test.YtdgnhfhaaghoaaaGreatDoorJ15
import Derived.Test.YtdgnhfhaaghoaaaGreatDoorJ14
set_option linter.unusedSimpArgs false
set_option linter.unusedVariables false
namespace Go.Proofs.YtdgnhfhaaghoaaaGreatDoor

theorem lt3_code {t u : I3} (h : lt3 t u = true) (ht : 0 ≤ t.2.1 ∧ t.2.1 < 8 ∧ 0 ≤ t.2.2 ∧ t.2.2 < 40) (hu : 0 ≤ u.2.1 ∧ u.2.1 < 8 ∧ 0 ≤ u.2.2 ∧ u.2.2 < 40) : t.1 * 320 + t.2.1 * 40 + t.2.2 < u.1 * 320 + u.2.1 * 40 + u.2.2 := by
  obtain ⟨x, y, z⟩ := t
  obtain ⟨x', y', z'⟩ := u
  dsimp only at *
  by_cases hx : x = x'
  · subst hx
    by_cases hy : y = y'
    · subst hy
      by_cases hz : z = z'
      · subst hz
        rw [lt3_self] at h
        cases h
      · rw [lt3_ne3 hz] at h
        simp at h
        omega
    · rw [lt3_ne2 hy] at h
      simp at h
      omega
  · rw [lt3_ne1 hx] at h
    simp at h
    omega
theorem goodF_all {n k : Nat} {p : Nat → Bool} (h : allR n p = true) (hk : k < n) : p k = true := by
  unfold allR at h
  rw [List.all_eq_true] at h
  exact h k (List.mem_range.2 hk)
theorem goodF_size {l : Lab} (h : goodLab l = true) : 1 ≤ l.shows.length ∧ l.shows.length ≤ 40 := by
  unfold goodLab at h
  simp only [Bool.and_eq_true] at h
  have := inB_true h.1
  omega
theorem goodF_in {l : Lab} (h : goodLab l = true) {i : Nat} (hi : i < l.steps.length) : 0 ≤ (l.steps[i]).1 ∧ (l.steps[i]).1 < l.shows.length ∧ 0 ≤ (l.steps[i]).2.1 ∧ (l.steps[i]).2.1 < 8 ∧ 0 ≤ (l.steps[i]).2.2 ∧ (l.steps[i]).2.2 < l.shows.length := by
  unfold goodLab goodSteps at h
  simp only [Bool.and_eq_true] at h
  have h1 := goodF_all h.2.1 hi
  unfold stepAt stepIn at h1
  have e : l.steps.getD i (0, 0, 0) = l.steps[i] := by simp [List.getD, hi]
  rw [e] at h1
  simp only [Bool.and_eq_true] at h1
  have a := inB_true h1.1.1
  have b := inB_true h1.1.2.1
  have c := inB_true h1.1.2.2
  omega
theorem goodF_steps {l : Lab} (h : goodLab l = true) : StepsN l.shows.length l.steps := fun s hs => by
  obtain ⟨i, hi, rfl⟩ := List.getElem_of_mem hs
  have := goodF_in h hi
  exact ⟨(l.steps[i]).1.toNat, (l.steps[i]).2.2.toNat, by omega, by omega, by omega, by omega⟩
theorem goodF_acts {l : Lab} (h : goodLab l = true) : ∀ s ∈ l.steps, 0 ≤ s.2.1 ∧ s.2.1 < 8 := fun s hs => by
  obtain ⟨i, hi, rfl⟩ := List.getElem_of_mem hs
  have := goodF_in h hi
  omega
theorem goodF_many {l : Lab} (h : goodLab l = true) : l.steps.length ≤ 12800 := by
  have hn := goodF_size h
  have hk : ∀ k, (hk : k < l.steps.length) → (k : Int) ≤ (l.steps[k]).1 * 320 + (l.steps[k]).2.1 * 40 + (l.steps[k]).2.2 := by
    intro k
    induction k with
    | zero => intro hk; have := goodF_in h hk; omega
    | succ k ih =>
      intro hk
      have h1 := ih (by omega)
      have a1 := goodF_in h hk
      have a0 := goodF_in h (show k < l.steps.length by omega)
      have hg := h
      unfold goodLab goodSteps at hg
      simp only [Bool.and_eq_true] at hg
      have h2 := goodF_all hg.2.1 hk
      unfold stepAt at h2
      have e1 : l.steps.getD (k + 1) (0, 0, 0) = l.steps[k + 1] := by simp [List.getD, hk]
      have e0 : l.steps.getD k (0, 0, 0) = l.steps[k] := by simp [List.getD, show k < l.steps.length by omega]
      rw [Nat.add_sub_cancel, e1, e0] at h2
      simp only [Bool.and_eq_true, Bool.or_eq_true, beq_iff_eq] at h2
      rcases h2.2 with h3 | h3
      · omega
      · have := lt3_code h3 (by omega) (by omega)
        omega
  by_cases hl : l.steps.length ≤ 12800
  · exact hl
  · have h1 := hk 12800 (by omega)
    have h2 := goodF_in h (show 12800 < l.steps.length by omega)
    omega
theorem goodF_row {l : Lab} (h : goodLab l = true) {i : Nat} (hi : i < l.shows.length) : (l.shows.getD i []).Pairwise (· < ·) ∧ (∀ x ∈ l.shows.getD i [], 0 ≤ x ∧ x < 8) ∧ (l.shows.getD i []).length ≤ 8 := by
  unfold goodLab goodShows at h
  simp only [Bool.and_eq_true] at h
  have h1 := goodF_all h.2.2 hi
  generalize l.shows.getD i [] = xs at *
  unfold rising at h1
  have hin : ∀ k, k < xs.length → 0 ≤ xs.getD k 0 ∧ xs.getD k 0 ≤ 7 := fun k hk => by
    have := goodF_all h1 hk
    unfold riseAt at this
    rw [Bool.and_eq_true] at this
    exact inB_true this.1
  have hlt : ∀ k, k + 1 < xs.length → xs.getD k 0 < xs.getD (k + 1) 0 := fun k hk => by
    have := goodF_all h1 hk
    unfold riseAt at this
    simp only [Bool.and_eq_true, Bool.or_eq_true, beq_iff_eq, decide_eq_true_eq, Nat.add_sub_cancel] at this
    rcases this.2 with h2 | h2
    · omega
    · exact h2
  have hmon : ∀ d k, k + d + 1 < xs.length → xs.getD k 0 < xs.getD (k + d + 1) 0 := by
    intro d
    induction d with
    | zero => intro k hk; exact hlt k hk
    | succ d ih =>
      intro k hk
      have a := ih k (by omega)
      have b := hlt (k + d + 1) (by omega)
      rw [show k + (d + 1) + 1 = k + d + 1 + 1 by omega]
      omega
  have hge : ∀ k, k < xs.length → (k : Int) ≤ xs.getD k 0 := by
    intro k
    induction k with
    | zero => intro hk; exact (hin 0 hk).1
    | succ k ih =>
      intro hk
      have a := ih (by omega)
      have b := hlt k hk
      omega
  refine ⟨?_, fun x hx => ?_, ?_⟩
  · rw [List.pairwise_iff_getElem]
    intro i j hi' hj' hij
    have a := hmon (j - i - 1) i (by omega)
    rw [show i + (j - i - 1) + 1 = j by omega] at a
    have e1 : xs.getD i 0 = xs[i] := by simp [List.getD, hi']
    have e2 : xs.getD j 0 = xs[j] := by simp [List.getD, hj']
    omega
  · obtain ⟨j, hj, rfl⟩ := List.getElem_of_mem hx
    have a := hin j hj
    have e1 : xs.getD j 0 = xs[j] := by simp [List.getD, hj]
    omega
  · by_cases hl : xs.length ≤ 8
    · exact hl
    · have a := hge 8 (by omega)
      have b := hin 8 (by omega)
      omega

end Go.Proofs.YtdgnhfhaaghoaaaGreatDoor
