/- The quotient is small: plain. Three labelled systems in boxes of their own, each with its blocks: what the laws over one labelled system carry. -/
import Derived.Test.YtdgnhfhaaghoaaaGreatDoorProg
import Derived.Test.YtdgnhfhaaghoaaaGreatDoorJ47
import Derived.Test.YtdgnhfhaaghoaaaGreatDoorJ20
import Derived.Test.YtdgnhfhaaghoaaaGreatDoorJ10
import Derived.Test.YtdgnhfhaaghoaaaGreatDoorJ24
import Derived.Test.YtdgnhfhaaghoaaaGreatDoorJ11
set_option linter.unusedVariables false
namespace Go.Proofs.YtdgnhfhaaghoaaaGreatDoor
open Go.RowKit

theorem totalQ_le {M : Nat} : ∀ {xss : List (List Int)}, (∀ xs ∈ xss, xs.length ≤ M) → total xss ≤ xss.length * M
  | [], _ => by simp [total]
  | xs :: r, h => by
    have h1 := h xs (List.mem_cons_self)
    have ih := totalQ_le (xss := r) fun y hy => h y (List.mem_cons_of_mem _ hy)
    unfold total at ih ⊢
    rw [List.map_cons, List.sum_cons, List.length_cons, Nat.succ_mul]
    omega
theorem quoR_lens (l : Lab) : (quoR l).shows.length ≤ 40 ∧ (quoR l).steps.length ≤ 12800 ∧ ∀ xs ∈ (quoR l).shows, xs.length ≤ 8 := by
  unfold quoR
  split
  · rename_i hg
    have hn := (goodF_size hg).2
    have hs := goodF_many hg
    refine ⟨?_, ?_, fun xs hx => ?_⟩
    · have := reps_len l
      show ((repsI l).map _).length ≤ 40
      rw [List.length_map]
      omega
    · have h1 := sortT_len (quoSteps l)
      have h2 : (quoSteps l).length ≤ l.steps.length := by
        unfold quoSteps
        rw [List.length_map]
        exact List.length_filter_le _ _
      show (sortT (quoSteps l)).length ≤ 12800
      omega
    · have hx' : xs ∈ (repsI l).map fun i => l.shows.getD i.toNat [] := hx
      rw [List.mem_map] at hx'
      obtain ⟨i, hi, rfl⟩ := hx'
      obtain ⟨k, hk, e⟩ := List.getElem_of_mem hi
      obtain ⟨j, hj, hjn⟩ := reps_val l hk
      have e2 : i = (j : Int) := by rw [← e, ← hj]; simp [List.getD, hk]
      rw [e2, Int.toNat_natCast]
      exact (goodF_row hg hjn).2.2
  · exact ⟨by simp, by simp, fun xs hx => by simp at hx⟩
theorem small_quoR (l : Lab) : SmallLab (quoR l) := by
  obtain ⟨h1, h2, h3⟩ := quoR_lens l
  exact ⟨by omega, by omega, fun xs hx => by have := h3 xs hx; omega⟩
theorem size_quoR (l : Lab) : sizeLab (quoR l) ≤ 4194304 := by
  obtain ⟨h1, h2, h3⟩ := quoR_lens l
  have h4 := totalQ_le h3
  have h5 : (quoR l).shows.length * 8 ≤ 40 * 8 := Nat.mul_le_mul_right _ h1
  unfold sizeLab
  omega

end Go.Proofs.YtdgnhfhaaghoaaaGreatDoor

set_option linter.unusedVariables false
namespace Go.Proofs.YtdgnhfhaaghoaaaGreatDoor
open Go.RowKit

theorem box_cells' {w : World} {b : Nat} {x y : Value} {t : TypeId} (h : w.heap[b]? = some (.cells #[x, y] t)) : w.cell? ⟨b, 0, none⟩ = some x ∧ w.cell? ⟨b, 1, none⟩ = some y := ⟨cell_of_row _ _ _ _ _ _ h, cell_of_row _ _ _ _ _ _ h⟩
theorem ownLab_form {w : World} {S : Nat → Prop} {v : Value} {l : Lab} (h : OwnLab w S v l) : ∃ A c B d, v = .agg #[.slice A l.shows.length c, .slice B l.steps.length d] := by
  obtain ⟨sv, tv, S1, S2, rfl, h1, h2, _⟩ := h
  obtain ⟨A, c, rfl⟩ := h1.form
  obtain ⟨B, d, rfl, _⟩ := h2.cells
  exact ⟨A, c, B, d, rfl⟩
theorem ownLab_mono {w : World} {S T : Nat → Prop} {v : Value} {l : Lab} (h : OwnLab w S v l) (hs : ∀ b, S b → T b) : OwnLab w T v l := by
  obtain ⟨sv, tv, S1, S2, rfl, h1, h2, a1, a2, a3⟩ := h
  exact ⟨sv, tv, S1, S2, rfl, h1, h2, fun b hb => hs b (a1 b hb), fun b hb => hs b (a2 b hb), a3⟩

theorem lz_pos (l : Lab) : 0 ≤ sizeLab l := by unfold sizeLab; omega
theorem lz_small {l : Lab} (h : ¬ szLab l 1048576 < 0) : sizeLab l ≤ 4194304 := by
  unfold sizeLab total
  unfold szLab at h
  split at h
  · omega
  · rename_i hl
    unfold szRow at h
    split at h
    · omega
    · rename_i hr
      unfold szSS at hl hr
      split at hl
      · omega
      · rename_i h1
        rw [if_neg h1] at hr
        have hs := szRows_sum (l.shows.map List.length) (1048576 - l.shows.length) (by omega) (by omega)
        omega

structure VZ (n2 p1 p2 p3 : Nat) (y1 y2 x1 x2 g1 g2 : Value) (a R Q : Lab) (w : World) : Prop where
  by' : w.heap[p1]? = some (.cells #[y1, y2] 27)
  bx : w.heap[p2]? = some (.cells #[x1, x2] 27)
  bg : w.heap[p3]? = some (.cells #[g1, g2] 27)
  oy : OwnLab w (fun q => n2 ≤ q ∧ q < p1) (.agg #[y1, y2]) R
  ox : OwnLab w (fun q => p1 < q ∧ q < p2) (.agg #[x1, x2]) a
  og : OwnLab w (fun q => p2 < q ∧ q < p3) (.agg #[g1, g2]) Q
  l0 : n2 ≤ p1
  l1 : p1 < p2
  l2 : p2 < p3
  l3 : p3 < w.heap.size

variable {n2 p1 p2 p3 : Nat} {y1 y2 x1 x2 g1 g2 : Value} {a R Q : Lab} {w w' : World}
theorem VZ.below (h : VZ n2 p1 p2 p3 y1 y2 x1 x2 g1 g2 a R Q w) (hb : Below w.heap.size w w') : VZ n2 p1 p2 p3 y1 y2 x1 x2 g1 g2 a R Q w' := by
  have h1 := h.l1
  have h2 := h.l2
  have h3 := h.l3
  have hs := hb.size
  exact { h with by' := (hb.block _ (by omega)).trans h.by', bx := (hb.block _ (by omega)).trans h.bx, bg := (hb.block _ (by omega)).trans h.bg, oy := h.oy.below hb (Nat.le_refl _), ox := h.ox.below hb (Nat.le_refl _), og := h.og.below hb (Nat.le_refl _), l3 := by omega }
theorem VZ.cells (h : VZ n2 p1 p2 p3 y1 y2 x1 x2 g1 g2 a R Q w) : (w.cell? ⟨p1, 0, none⟩ = some y1 ∧ w.cell? ⟨p1, 1, none⟩ = some y2) ∧ (w.cell? ⟨p2, 0, none⟩ = some x1 ∧ w.cell? ⟨p2, 1, none⟩ = some x2) ∧ w.cell? ⟨p3, 0, none⟩ = some g1 ∧ w.cell? ⟨p3, 1, none⟩ = some g2 := ⟨box_cells' h.by', box_cells' h.bx, box_cells' h.bg⟩
theorem VZ.markx {a' : Lab} (h : VZ n2 p1 p2 p3 y1 y2 x1 x2 g1 g2 a R Q w) (hk : Kept (fun q => p1 < q ∧ q < p2) w w') (ho : OwnLab w' (fun q => p1 < q ∧ q < p2) (.agg #[x1, x2]) a') : VZ n2 p1 p2 p3 y1 y2 x1 x2 g1 g2 a' R Q w' := by
  have h1 := h.l1
  have h2 := h.l2
  have h3 := h.l3
  have hs := hk.size
  exact { h with by' := (hk.block _ (by omega) (by omega)).trans h.by', bx := (hk.block _ (by omega) (by omega)).trans h.bx, bg := (hk.block _ (by omega) (by omega)).trans h.bg, oy := h.oy.kept hk (fun q a1 a2 => by omega), ox := ho, og := h.og.kept hk (fun q a1 a2 => by omega), l3 := by omega }
theorem VZ.markg {Q' : Lab} (h : VZ n2 p1 p2 p3 y1 y2 x1 x2 g1 g2 a R Q w) (hk : Kept (fun q => p2 < q ∧ q < p3) w w') (ho : OwnLab w' (fun q => p2 < q ∧ q < p3) (.agg #[g1, g2]) Q') : VZ n2 p1 p2 p3 y1 y2 x1 x2 g1 g2 a R Q' w' := by
  have h1 := h.l1
  have h2 := h.l2
  have h3 := h.l3
  have hs := hk.size
  exact { h with by' := (hk.block _ (by omega) (by omega)).trans h.by', bx := (hk.block _ (by omega) (by omega)).trans h.bx, bg := (hk.block _ (by omega) (by omega)).trans h.bg, oy := h.oy.kept hk (fun q a1 a2 => by omega), ox := h.ox.kept hk (fun q a1 a2 => by omega), og := ho, l3 := by omega }

end Go.Proofs.YtdgnhfhaaghoaaaGreatDoor
