/- The law that program and reference read formulas alike, walked. -/
import Derived.Test.YtdgnhfhaaghoaaaGreatDoorProg
import Derived.Test.YtdgnhfhaaghoaaaGreatDoorJ47
import Derived.Test.YtdgnhfhaaghoaaaGreatDoorJ2
set_option linter.unusedSimpArgs false
set_option linter.unusedVariables false
namespace Go.Proofs.YtdgnhfhaaghoaaaGreatDoor
open Go.RowKit

theorem pf_len (s : ByteArray) : (pfI s).length ≤ 202 := by
  unfold pfI
  split
  · rename_i h
    have := okP_got h
    have hf : isF (gotI s) = true := by unfold okP at h; simp only [Bool.and_eq_true] at h; exact h.1
    have := isF_end hf
    omega
  · simp

end Go.Proofs.YtdgnhfhaaghoaaaGreatDoor
