/- Controls: the walks of the law package's helpers, the signature of ambients of program and reference, and the law that they agree. -/
import Derived.Test.YtoofnicpjgmneaaDoorProg
import Derived.Test.YtoofnicpjgmneaaDoorAgg
import Derived.Test.YtoofnicpjgmneaaDoorText
import Derived.StillTailTactics
import Derived.Handy
set_option linter.unusedVariables false
namespace Go.Proofs.YtoofnicpjgmneaaDoor
open Go.RowKit

abbrev Ctl := ByteArray × Int × Int
def encC (c : Ctl) : List Value := [.string c.1, .int .i64 c.2.1, .int .i64 c.2.2]
def RC (_ : World) (cs : List Value) (c : Ctl) : Prop := cs = encC c
def OC (_ : World) (_ : Nat → Prop) (cs : List Value) (c : Ctl) : Prop := cs = encC c
theorem RC_keep : KeepR RC := fun _ _ _ _ h _ => h
theorem OC_keep : KeepO OC := ⟨fun _ _ _ _ _ _ h _ _ => h, fun _ _ _ _ _ h _ => h⟩

end Go.Proofs.YtoofnicpjgmneaaDoor
