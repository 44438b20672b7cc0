/- Rule words: program and reference walked. -/
import Derived.Test.YtlgdmafgbmnjdaaProg
import Derived.Test.YtlgdmafgbmnjdaaSWayB
import Derived.Lib.QuietBelow
set_option linter.unusedVariables false
namespace Go.Proofs.Ytlgdmafgbmnjdaa
open Go.RowKit
open Go.Sort (grow)

theorem info_wi : (Try.prog.info? 3).map (fun i => (i.zero, i.size, i.bytes)) = some (some (.int .i64 0), 1, 8) := by kernel_rfl

def okWord (l : Sys) (way : List I3) : Bool := goodSys l && (way.isEmpty || wayB l.steps (way.getD 0 (0, 0, 0)).1 way)
def wordL (l : Sys) (way : List I3) : List Int := if okWord l way then way.map (fun s => s.2.1) else []

theorem quiet_cut {P : Program} {ops : Array Oper} {C : World → Prop} {Q : Act → Prop} (n : Nat) {l : List Oper} {a : Act}
    (h : ∀ K : Act → Prop, (∀ a', wpQuiet P ops C Q (l.drop n) a' → K a') → wpQuiet P ops C K (l.take n) a) : wpQuiet P ops C Q l a := by
  have H := h _ (fun _ h => h)
  clear h
  induction n generalizing l a with
  | zero => exact H
  | succ n ih =>
    cases l with
    | nil => exact H
    | cons o l =>
      simp only [List.take_succ_cons, List.drop_succ_cons, wpQuiet] at H ⊢
      split at H
      · rename_i hw
        rw [if_pos hw]
        exact Oper.quiet_mono (fun a h => ih h) H
      · rename_i hw
        rw [if_neg hw]
        exact ih H

theorem owns_zero (w : World) (e : TypeId) : (w.alloc (.cells #[] e)).ownsRow w.heap.size e 1 (.slice (some ⟨w.heap.size, 0, none⟩) 0 0) 0 [] := World.ownsRow_made w #[] 0 (Nat.le_refl _) (Nat.zero_le _) rfl

end Go.Proofs.Ytlgdmafgbmnjdaa
