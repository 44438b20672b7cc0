/- Four labelled systems in boxes of their own, each with its blocks: what the law of UnionOf carries. -/
import Derived.Test.YtojdobpmknadhaaProg
import Derived.Test.YtojdobpmknadhaaUnionW
import Derived.Test.YtojdobpmknadhaaMark
import Derived.Test.YtojdobpmknadhaaKeptCell
set_option linter.unusedVariables false
namespace Go.Proofs.Ytojdobpmknadhaa
open Go.RowKit

structure UZ (n2 pw nW n3 n4 n5 : Nat) (y1 y2 x1 x2 z1 z2 g1 g2 : Value) (a b R Q : Lab) (w : World) : Prop where
  b0 : w.heap[pw]? = some (.cells #[y1, y2] 27)
  bx : w.heap[n3]? = some (.cells #[x1, x2] 27)
  bz : w.heap[n4]? = some (.cells #[z1, z2] 27)
  bg : w.heap[n5]? = some (.cells #[g1, g2] 27)
  o0 : OwnLab w (fun q => n2 ≤ q ∧ q < nW ∧ q ≠ pw) (.agg #[y1, y2]) R
  ox : OwnLab w (fun q => nW ≤ q ∧ q < n3) (.agg #[x1, x2]) a
  oz : OwnLab w (fun q => n3 < q ∧ q < n4) (.agg #[z1, z2]) b
  og : OwnLab w (fun q => n4 < q ∧ q < n5) (.agg #[g1, g2]) Q
  l0 : n2 ≤ pw
  l1 : pw < nW
  l2 : nW ≤ n3
  l3 : n3 < n4
  l4 : n4 < n5
  l5 : n5 < w.heap.size

variable {n2 pw nW n3 n4 n5 : Nat} {y1 y2 x1 x2 z1 z2 g1 g2 : Value} {a b R Q : Lab} {w w' : World}

theorem UZ.below (h : UZ n2 pw nW n3 n4 n5 y1 y2 x1 x2 z1 z2 g1 g2 a b R Q w) (hb : Below w.heap.size w w') : UZ n2 pw nW n3 n4 n5 y1 y2 x1 x2 z1 z2 g1 g2 a b R Q w' := by
  have h1 := h.l1
  have h2 := h.l2
  have h3 := h.l3
  have h4 := h.l4
  have h5 := h.l5
  have hs := hb.size
  exact { h with b0 := (hb.block _ (by omega)).trans h.b0, bx := (hb.block _ (by omega)).trans h.bx, bz := (hb.block _ (by omega)).trans h.bz, bg := (hb.block _ (by omega)).trans h.bg, o0 := h.o0.below hb (Nat.le_refl _), ox := h.ox.below hb (Nat.le_refl _), oz := h.oz.below hb (Nat.le_refl _), og := h.og.below hb (Nat.le_refl _), l5 := by omega }

theorem UZ.cells (h : UZ n2 pw nW n3 n4 n5 y1 y2 x1 x2 z1 z2 g1 g2 a b R Q w) : (w.cell? ⟨pw, 0, none⟩ = some y1 ∧ w.cell? ⟨pw, 1, none⟩ = some y2) ∧ (w.cell? ⟨n3, 0, none⟩ = some x1 ∧ w.cell? ⟨n3, 1, none⟩ = some x2) ∧ (w.cell? ⟨n4, 0, none⟩ = some z1 ∧ w.cell? ⟨n4, 1, none⟩ = some z2) ∧ w.cell? ⟨n5, 0, none⟩ = some g1 ∧ w.cell? ⟨n5, 1, none⟩ = some g2 := by
  obtain ⟨a0, a1, _, _⟩ := box_cells h.b0
  obtain ⟨c0, c1, _, _⟩ := box_cells h.bx
  obtain ⟨d0, d1, _, _⟩ := box_cells h.bz
  obtain ⟨e0, e1, _, _⟩ := box_cells h.bg
  exact ⟨⟨a0, a1⟩, ⟨c0, c1⟩, ⟨d0, d1⟩, e0, e1⟩

/-- The first copy is overwritten. -/
theorem UZ.markx {a' : Lab} (h : UZ n2 pw nW n3 n4 n5 y1 y2 x1 x2 z1 z2 g1 g2 a b R Q w) (hk : Kept (fun q => nW ≤ q ∧ q < n3) w w') (ho : OwnLab w' (fun q => nW ≤ q ∧ q < n3) (.agg #[x1, x2]) a') : UZ n2 pw nW n3 n4 n5 y1 y2 x1 x2 z1 z2 g1 g2 a' b R Q w' := by
  have h1 := h.l1
  have h2 := h.l2
  have h3 := h.l3
  have h4 := h.l4
  have h5 := h.l5
  have hs := hk.size
  exact { h with b0 := (hk.block _ (by omega) (by omega)).trans h.b0, bx := (hk.block _ (by omega) (by omega)).trans h.bx, bz := (hk.block _ (by omega) (by omega)).trans h.bz, bg := (hk.block _ (by omega) (by omega)).trans h.bg, o0 := h.o0.kept hk (fun q p1 p2 => by omega), ox := ho, oz := h.oz.kept hk (fun q p1 p2 => by omega), og := h.og.kept hk (fun q p1 p2 => by omega), l5 := by omega }
/-- The second copy is overwritten. -/
theorem UZ.markz {b' : Lab} (h : UZ n2 pw nW n3 n4 n5 y1 y2 x1 x2 z1 z2 g1 g2 a b R Q w) (hk : Kept (fun q => n3 < q ∧ q < n4) w w') (ho : OwnLab w' (fun q => n3 < q ∧ q < n4) (.agg #[z1, z2]) b') : UZ n2 pw nW n3 n4 n5 y1 y2 x1 x2 z1 z2 g1 g2 a b' R Q w' := by
  have h1 := h.l1
  have h2 := h.l2
  have h3 := h.l3
  have h4 := h.l4
  have h5 := h.l5
  have hs := hk.size
  exact { h with b0 := (hk.block _ (by omega) (by omega)).trans h.b0, bx := (hk.block _ (by omega) (by omega)).trans h.bx, bz := (hk.block _ (by omega) (by omega)).trans h.bz, bg := (hk.block _ (by omega) (by omega)).trans h.bg, o0 := h.o0.kept hk (fun q p1 p2 => by omega), ox := h.ox.kept hk (fun q p1 p2 => by omega), oz := ho, og := h.og.kept hk (fun q p1 p2 => by omega), l5 := by omega }
/-- The result is overwritten. -/
theorem UZ.markg {Q' : Lab} (h : UZ n2 pw nW n3 n4 n5 y1 y2 x1 x2 z1 z2 g1 g2 a b R Q w) (hk : Kept (fun q => n4 < q ∧ q < n5) w w') (ho : OwnLab w' (fun q => n4 < q ∧ q < n5) (.agg #[g1, g2]) Q') : UZ n2 pw nW n3 n4 n5 y1 y2 x1 x2 z1 z2 g1 g2 a b R Q' w' := by
  have h1 := h.l1
  have h2 := h.l2
  have h3 := h.l3
  have h4 := h.l4
  have h5 := h.l5
  have hs := hk.size
  exact { h with b0 := (hk.block _ (by omega) (by omega)).trans h.b0, bx := (hk.block _ (by omega) (by omega)).trans h.bx, bz := (hk.block _ (by omega) (by omega)).trans h.bz, bg := (hk.block _ (by omega) (by omega)).trans h.bg, o0 := h.o0.kept hk (fun q p1 p2 => by omega), ox := h.ox.kept hk (fun q p1 p2 => by omega), oz := h.oz.kept hk (fun q p1 p2 => by omega), og := ho, l5 := by omega }

end Go.Proofs.Ytojdobpmknadhaa
