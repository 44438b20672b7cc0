/- The walk of markText: a number's text. -/
import Derived.Test.YtoofnicpjgmneaaDoorProg
import Derived.Test.YtoofnicpjgmneaaDoorIntS
set_option linter.unusedVariables false
namespace Go.Proofs.YtoofnicpjgmneaaDoor
open Go.RowKit

def mDig : Nat → Int → ByteArray → ByteArray
  | 0, _, out => out
  | f + 1, k, out => if k ≤ 0 then out else mDig f (k / 10) (strOfNums [48 + k % 10] ++ out)

theorem mDig_zero (f : Nat) (k : Int) (out : ByteArray) (h : k ≤ 0) : mDig f k out = out := by
  cases f with
  | zero => rfl
  | succ f => rw [mDig, if_pos h]

def mText (k : Int) : ByteArray := (⟨#[109]⟩ : ByteArray) ++ mDig 64 k ⟨#[]⟩

end Go.Proofs.YtoofnicpjgmneaaDoor
