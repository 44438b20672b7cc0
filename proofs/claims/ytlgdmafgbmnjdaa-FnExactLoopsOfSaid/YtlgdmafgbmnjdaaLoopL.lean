/- The least state of a loop. Plain law: the program's first hit and the reference's last hit, from above, are one. -/
import Derived.Test.YtlgdmafgbmnjdaaReachL
import Derived.Test.YtlgdmafgbmnjdaaRoundL
set_option linter.unusedVariables false
namespace Go.Proofs.Ytlgdmafgbmnjdaa

section
variable {n : Nat} {ss : List I3}
/-- Ways lead from i to k and back. -/
def loopB (n : Nat) (ss : List I3) (i k : Nat) : Bool := (reachR ss (i : Int) n).contains (k : Int) && (reachR ss (k : Int) n).contains (i : Int)
def loopAt (n : Nat) (ss : List I3) (i : Nat) : Int := idxR (i + 1) (loopB n ss i)
theorem loopB_self (i : Nat) : loopB n ss i i = true := by
  have := reachR_p ss (i : Int) n
  simp [loopB, this]
theorem loopAt_spec (n : Nat) (ss : List I3) (i : Nat) : ∃ k : Nat, loopAt n ss i = (k : Int) ∧ k ≤ i ∧ loopB n ss i k = true ∧ ∀ j, j < k → loopB n ss i j = false := by
  obtain ⟨k, h1, h2, h3, h4⟩ := idx_least (n := i + 1) (p := loopB n ss i) (i := i) (by omega) (loopB_self i)
  exact ⟨k, h1, h2, h3, h4⟩

/-- The reference's loop, d steps down from i. -/
def downTo (p : Nat → Bool) (i : Nat) : Nat → Nat
  | 0 => i
  | d + 1 => if p (i - (d + 1)) then i - (d + 1) else downTo p i d
theorem downTo_spec {p : Nat → Bool} {i : Nat} (hp : p i = true) : ∀ d, d ≤ i → p (downTo p i d) = true ∧ i - d ≤ downTo p i d ∧ downTo p i d ≤ i ∧ ∀ j, i - d ≤ j → j < downTo p i d → p j = false
  | 0, _ => ⟨hp, Nat.le_refl _, Nat.le_refl _, fun j h1 h2 => by simp [downTo] at h2; omega⟩
  | d + 1, hd => by
    obtain ⟨h1, h2, h3, h4⟩ := downTo_spec hp d (by omega)
    rw [downTo]
    split
    · rename_i h
      exact ⟨h, Nat.le_refl _, by omega, fun j a b => by omega⟩
    · rename_i h
      refine ⟨h1, by omega, h3, fun j a b => ?_⟩
      by_cases e : j = i - (d + 1)
      · rw [e]; simpa using h
      · exact h4 j (by omega) b
theorem loop_spec (i : Nat) : ((downTo (loopB n ss i) i i : Nat) : Int) = loopAt n ss i := by
  obtain ⟨h1, _, h3, h4⟩ := downTo_spec (p := loopB n ss i) (loopB_self i) i (Nat.le_refl _)
  obtain ⟨k, k1, k2, k3, k4⟩ := loopAt_spec n ss i
  rw [k1]
  have a : ¬ k < downTo (loopB n ss i) i i := fun h => by have := h4 k (by omega) h; rw [k3] at this; cases this
  have b : ¬ downTo (loopB n ss i) i i < k := fun h => by have := k4 _ h; rw [h1] at this; cases this
  omega

/-- The program's: the first of the states reached from i from which i is reached. -/
theorem loop_prog (h : StepsN n ss) {i : Nat} (hi : i < n) : ∃ q : Nat, idxR (reachR ss (i : Int) n).length (fun k => (reachR ss ((reachR ss (i : Int) n).getD k 0) n).contains (i : Int)) = (q : Int) ∧ q < (reachR ss (i : Int) n).length ∧ (reachR ss (i : Int) n).getD q 0 = loopAt n ss i := by
  obtain ⟨k, k1, k2, k3, k4⟩ := loopAt_spec n ss i
  unfold loopB at k3
  rw [Bool.and_eq_true] at k3
  have hm : (k : Int) ∈ reachR ss (i : Int) n := by simpa using k3.1
  obtain ⟨q, hq, e⟩ := List.getElem_of_mem hm
  have eq : (reachR ss (i : Int) n).getD q 0 = (k : Int) := by simp [List.getD, hq, e]
  refine ⟨q, idxR_some hq (fun j hj => ?_) (by rw [eq]; exact k3.2), hq, by rw [eq, k1]⟩
  have hjl : j < (reachR ss (i : Int) n).length := by omega
  have hmj := getD_mem hjl
  obtain ⟨m, em, _⟩ := reachR_inN h hi n _ hmj
  have hlt := pair_at (reachR_sorted ss (i : Int) n) hj hq
  rw [eq, em] at hlt
  have := k4 m (by omega)
  unfold loopB at this
  rw [em] at hmj ⊢
  have hc : (reachR ss (i : Int) n).contains (m : Int) = true := by simpa using hmj
  rw [hc] at this
  simpa using this
end

end Go.Proofs.Ytlgdmafgbmnjdaa
