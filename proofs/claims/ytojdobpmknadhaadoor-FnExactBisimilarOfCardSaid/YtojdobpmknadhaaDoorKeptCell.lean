/- A cell outside of what has turned. No program is in sight. -/
import Derived.Test.YtojdobpmknadhaaDoorOwn
set_option linter.unusedVariables false
namespace Go.Proofs.YtojdobpmknadhaaDoor
open Go.RowKit

theorem kept_cell {S : Nat → Prop} {w w' : World} {p : Addr} {u : Value} (hk : Kept S w w') (h : w.cell? p = some u) (hn : ¬ S p.block) : w'.cell? p = some u :=
  (World.cell?_of_block (hk.block _ (lt_of_cell h) hn)).trans h

theorem new_cell1 (W : World) (v : Value) (t : TypeId) {n : Nat} (hs : W.heap.size = n) : ∀ j u, [v][j]? = some u → (W.alloc (.cells #[v] t)).cell? ((⟨n, 0, none⟩ : Addr).add j) = some u := by
  subst hs
  intro j u hj
  match j, hj with
  | 0, hj =>
    simp at hj
    subst hj
    exact cell_of_row _ _ _ _ _ _ (heap_alloc_new _ _)

end Go.Proofs.YtojdobpmknadhaaDoor
