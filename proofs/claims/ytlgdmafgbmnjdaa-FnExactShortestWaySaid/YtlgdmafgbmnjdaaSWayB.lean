/- Systems: ways, walked. -/
import Derived.Test.YtlgdmafgbmnjdaaProg
import Derived.Test.YtlgdmafgbmnjdaaSWay
import Derived.Lib.QuietBelow
set_option linter.unusedVariables false
namespace Go.Proofs.Ytlgdmafgbmnjdaa
open Go.RowKit
open Go.Sort (grow)

def wayB (l : List I3) : Int → List I3 → Bool
  | _, [] => true
  | p, s :: r => (s.1 == p) && hasT l s && wayB l s.2.2 r

def okState (l : Sys) (p : Int) : Bool := goodSys l && stateB l p

end Go.Proofs.Ytlgdmafgbmnjdaa
