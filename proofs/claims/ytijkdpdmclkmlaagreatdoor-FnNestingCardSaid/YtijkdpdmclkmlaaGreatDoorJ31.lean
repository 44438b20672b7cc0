/- The laws' helpers at equal lists of names and at equal bigraphs: vTexts, vGraph: walked. -/
import Derived.Test.YtijkdpdmclkmlaaGreatDoorProg
import Derived.Test.YtijkdpdmclkmlaaGreatDoorJ0
import Derived.Test.YtijkdpdmclkmlaaGreatDoorJ16
import Derived.Test.YtijkdpdmclkmlaaGreatDoorJ1
import Derived.Test.YtijkdpdmclkmlaaGreatDoorJ30
import Derived.BigQuiet
set_option linter.unusedSimpArgs false
set_option linter.unusedVariables false
set_option maxRecDepth 100000
set_option maxHeartbeats 16000000
namespace Go.Proofs.YtijkdpdmclkmlaaGreatDoor
open Go.RowKit
theorem sameI_self (l : List Int) : sameI l l = true := by unfold sameI; exact decide_eq_true rfl
theorem neWiG (s : ByteArray) (l : Int) : ∀ w, (Op.equalIn 10000 90 (.agg #[.string s, .int .i64 l]) (.agg #[.string s, .int .i64 l])).run Tryz.prog w = .ok true w := fun w => by
  rw [eqWiG]
  simp

end Go.Proofs.YtijkdpdmclkmlaaGreatDoor
