/- A list, a labelled system in its box, a list: each with its blocks: what the laws over one labelled system with a list as result carry. -/
import Derived.Test.YtojdobpmknadhaaDoorProg
import Derived.Test.YtojdobpmknadhaaDoorVZ
set_option linter.unusedVariables false
namespace Go.Proofs.YtojdobpmknadhaaDoor
open Go.RowKit

structure VI (n2 n3 p2 n5 : Nat) (yv x1 x2 gv : Value) (a : Lab) (R Q : List Int) (w : World) : Prop where
  bx : w.heap[p2]? = some (.cells #[x1, x2] 30)
  oy : Own w (fun q => n2 ≤ q ∧ q < n3) yv R.length (ints R)
  ox : OwnLab w (fun q => n3 ≤ q ∧ q < p2) (.agg #[x1, x2]) a
  og : Own w (fun q => p2 < q ∧ q < n5) gv Q.length (ints Q)
  l0 : n2 ≤ n3
  l1 : n3 ≤ p2
  l2 : p2 < n5
  l3 : n5 ≤ w.heap.size

variable {n2 n3 p2 n5 : Nat} {yv x1 x2 gv : Value} {a : Lab} {R Q : List Int} {w w' : World}
theorem VI.below (h : VI n2 n3 p2 n5 yv x1 x2 gv a R Q w) (hb : Below w.heap.size w w') : VI n2 n3 p2 n5 yv x1 x2 gv a R Q w' := by
  have h1 := h.l1
  have h2 := h.l2
  have h3 := h.l3
  have hs := hb.size
  exact { h with bx := (hb.block _ (by omega)).trans h.bx, oy := h.oy.below hb (Nat.le_refl _), ox := h.ox.below hb (Nat.le_refl _), og := h.og.below hb (Nat.le_refl _), l3 := by omega }
theorem VI.cells (h : VI n2 n3 p2 n5 yv x1 x2 gv a R Q w) : w.cell? ⟨p2, 0, none⟩ = some x1 ∧ w.cell? ⟨p2, 1, none⟩ = some x2 := box_cells' h.bx
theorem VI.markx {a' : Lab} (h : VI n2 n3 p2 n5 yv x1 x2 gv a R Q w) (hk : Kept (fun q => n3 ≤ q ∧ q < p2) w w') (ho : OwnLab w' (fun q => n3 ≤ q ∧ q < p2) (.agg #[x1, x2]) a') : VI n2 n3 p2 n5 yv x1 x2 gv a' R Q w' := by
  have h1 := h.l1
  have h2 := h.l2
  have h3 := h.l3
  have hs := hk.size
  exact { h with bx := (hk.block _ (by omega) (by omega)).trans h.bx, oy := h.oy.kept hk (fun q a1 a2 => by omega), ox := ho, og := h.og.kept hk (fun q a1 a2 => by omega), l3 := by omega }
theorem VI.markg {Q' : List Int} (h : VI n2 n3 p2 n5 yv x1 x2 gv a R Q w) (hk : Kept (fun q => p2 < q ∧ q < n5) w w') (ho : Own w' (fun q => p2 < q ∧ q < n5) gv Q'.length (ints Q')) : VI n2 n3 p2 n5 yv x1 x2 gv a R Q' w' := by
  have h1 := h.l1
  have h2 := h.l2
  have h3 := h.l3
  have hs := hk.size
  exact { h with bx := (hk.block _ (by omega) (by omega)).trans h.bx, oy := h.oy.kept hk (fun q a1 a2 => by omega), ox := h.ox.kept hk (fun q a1 a2 => by omega), og := ho, l3 := by omega }
theorem sameI_same (xs : List Int) : sameI xs xs = true := by simp [sameI]
theorem Own.cellsA {S : Nat → Prop} {A : Option Addr} {c n : Nat} {cs : List Value} (h : Own w S (.slice A n c) n cs) : Cells w A cs := by
  obtain ⟨A', c', e, hc⟩ := h.cells
  cases e
  exact hc

end Go.Proofs.YtojdobpmknadhaaDoor
