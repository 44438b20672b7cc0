/- The joined system is small where both are: plain. -/
import Derived.Test.YtojdobpmknadhaaProg
import Derived.Test.YtojdobpmknadhaaUnionW
import Derived.Test.YtojdobpmknadhaaMark
import Derived.Test.YtojdobpmknadhaaHas
set_option linter.unusedVariables false
namespace Go.Proofs.Ytojdobpmknadhaa
open Go.RowKit

theorem sizeU_pos (l : Lab) : 0 ≤ sizeLab l := by unfold sizeLab; omega
theorem sizeU_small {l : Lab} {left : Int} (h0 : 0 ≤ left) (h2 : left ≤ 1048576) (h : ¬ szLab l left < 0) : sizeLab l ≤ 4194304 := by
  unfold sizeLab total
  unfold szLab at h
  split at h
  · omega
  · rename_i hl
    unfold szRow at h
    split at h
    · omega
    · rename_i hr
      unfold szSS at hl hr
      split at hl
      · omega
      · rename_i h1
        rw [if_neg h1] at hr
        have hs := szRows_sum (l.shows.map List.length) (left - l.shows.length) (by omega) (by omega)
        omega
theorem total_app (x y : List (List Int)) : total (x ++ y) = total x + total y := by simp [total]
theorem sizeU_union (a b : Lab) : sizeLab (unionR a b) ≤ sizeLab a + sizeLab b := by
  unfold unionR
  split
  · unfold sizeLab uniL
    simp only [total_app, List.length_append, List.length_map]
    omega
  · unfold sizeLab
    simp [total]
    omega
theorem union_small {a b : Lab} (ha : SmallLab a) (hb : SmallLab b) (h1 : sizeLab a ≤ 4194304) (h2 : sizeLab b ≤ 4194304) : SmallLab (unionR a b) := by
  unfold unionR
  split
  · rename_i hok
    have h40 : a.shows.length + b.shows.length ≤ 40 := by
      unfold okU at hok
      simp at hok
      omega
    unfold sizeLab at h1 h2
    refine ⟨by simp [uniL]; omega, by simp [uniL]; omega, fun xs hx => ?_⟩
    have hx' : xs ∈ a.shows ++ b.shows := hx
    rw [List.mem_append] at hx'
    rcases hx' with hx' | hx'
    · exact ha.2.2 xs hx'
    · exact hb.2.2 xs hx'
  · exact ⟨by simp, by simp, fun xs hx => by simp at hx⟩

end Go.Proofs.Ytojdobpmknadhaa
