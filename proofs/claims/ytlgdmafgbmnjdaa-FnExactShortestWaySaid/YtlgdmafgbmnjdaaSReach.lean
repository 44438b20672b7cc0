/- Systems: the states that are reached from a state. -/
import Derived.Test.YtlgdmafgbmnjdaaSCount
import Derived.Test.YtlgdmafgbmnjdaaReachL
set_option linter.unusedVariables false
namespace Go.Proofs.Ytlgdmafgbmnjdaa

/-- All states that are reached from p. -/
def reachL (l : Sys) (p : Int) : List Int := reachR l.steps p l.states.length

end Go.Proofs.Ytlgdmafgbmnjdaa
