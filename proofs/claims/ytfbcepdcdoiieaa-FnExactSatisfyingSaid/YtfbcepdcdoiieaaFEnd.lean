/- Where a formula ends: what a well-formed formula looks like, one step. No program is in sight. -/
import Derived.Test.YtfbcepdcdoiieaaFormA
set_option linter.unusedVariables false
namespace Go.Proofs.Ytfbcepdcdoiieaa
open Go.RowKit

theorem fEnd_pos {n : Nat} {f : List Int} {p : Int} (h : 0 ≤ fEnd n f p) : p < fEnd n f p ∧ fEnd n f p ≤ f.length := by
  rcases fEnd_bd n f p with h' | h'
  · omega
  · exact h'
theorem fEnd_p0 {n : Nat} {f : List Int} {p : Int} (h : 0 ≤ fEnd n f p) : 0 ≤ p ∧ p < f.length := by
  cases n with
  | zero => simp [fEnd] at h
  | succ n =>
    unfold fEnd at h
    split at h
    · omega
    · omega

/-- What a well-formed formula at k looks like, one step. -/
theorem fEnd_step {n : Nat} {f : List Int} {k : Nat} (h : 0 ≤ fEnd (n + 1) f k) :
    (f.getD k 0 = 0 ∧ fEnd (n + 1) f k = k + 1) ∨
    (f.getD k 0 = 1 ∧ k + 1 < f.length ∧ 0 ≤ f.getD (k + 1) 0 ∧ f.getD (k + 1) 0 ≤ 7 ∧ fEnd (n + 1) f k = k + 2) ∨
    (f.getD k 0 = 2 ∧ fEnd (n + 1) f k = fEnd n f (k + 1)) ∨
    (f.getD k 0 = 3 ∧ 0 ≤ fEnd n f (k + 1) ∧ fEnd (n + 1) f k = fEnd n f (fEnd n f (k + 1))) ∨
    (f.getD k 0 = 4 ∧ k + 1 < f.length ∧ 0 ≤ f.getD (k + 1) 0 ∧ f.getD (k + 1) 0 ≤ 7 ∧ fEnd (n + 1) f k = fEnd n f (k + 2)) := by
  have hk := fEnd_p0 h
  have e := fEnd_eq n f k (by omega)
  rw [e] at h ⊢
  split at h
  · rename_i hx
    rw [if_pos hx]
    exact .inl ⟨by simpa using hx, rfl⟩
  · rename_i hx
    rw [if_neg hx]
    split at h
    · rename_i hy
      rw [if_pos hy]
      split at h
      · rename_i hz
        rw [if_pos hz]
        simp only [Bool.and_eq_true, decide_eq_true_eq] at hz
        have := inB_true hz.2
        exact .inr (.inl ⟨by simpa using hy, by omega, this.1, this.2, rfl⟩)
      · omega
    · rename_i hy
      rw [if_neg hy]
      split at h
      · rename_i hz
        rw [if_pos hz]
        exact .inr (.inr (.inl ⟨by simpa using hz, rfl⟩))
      · rename_i hz
        rw [if_neg hz]
        split at h
        · rename_i hu
          rw [if_pos hu]
          have h' := fEnd_p0 h
          exact .inr (.inr (.inr (.inl ⟨by simpa using hu, h'.1, rfl⟩)))
        · rename_i hu
          rw [if_neg hu]
          split at h
          · rename_i hv
            rw [if_pos hv]
            split at h
            · rename_i hw
              rw [if_pos hw]
              simp only [Bool.and_eq_true, decide_eq_true_eq] at hw
              have := inB_true hw.2
              exact .inr (.inr (.inr (.inr ⟨by simpa using hv, by omega, this.1, this.2, rfl⟩)))
            · omega
          · omega

end Go.Proofs.Ytfbcepdcdoiieaa
