/- A cell outside of what has turned. No program is in sight. -/
import Derived.Test.YtlgdmafgbmnjdaaOwn
set_option linter.unusedVariables false
namespace Go.Proofs.Ytlgdmafgbmnjdaa
open Go.RowKit

theorem kept_cell {S : Nat → Prop} {w w' : World} {p : Addr} {u : Value} (hk : Kept S w w') (h : w.cell? p = some u) (hn : ¬ S p.block) : w'.cell? p = some u :=
  (World.cell?_of_block (hk.block _ (lt_of_cell h) hn)).trans h

end Go.Proofs.Ytlgdmafgbmnjdaa
