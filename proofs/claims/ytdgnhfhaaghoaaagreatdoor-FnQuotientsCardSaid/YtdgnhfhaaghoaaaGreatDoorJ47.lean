/- Three labelled systems in boxes of their own, each with its blocks: what the laws over one labelled system carry. slices.Grow of nil and slices.Concat at [][]int: library walked. -/
import Derived.Test.YtdgnhfhaaghoaaaGreatDoorProg
import Derived.Test.YtdgnhfhaaghoaaaGreatDoorJ2
import Derived.Test.YtdgnhfhaaghoaaaGreatDoorJ3
import Derived.Test.YtdgnhfhaaghoaaaGreatDoorJ30
import Derived.Test.YtdgnhfhaaghoaaaGreatDoorJ32
import Derived.Lib.AppendZeros
set_option linter.unusedSimpArgs false
set_option linter.unusedVariables false
namespace Go.Proofs.YtdgnhfhaaghoaaaGreatDoor
open Go.RowKit

theorem box_cells' {w : World} {b : Nat} {x y : Value} {t : TypeId} (h : w.heap[b]? = some (.cells #[x, y] t)) : w.cell? ⟨b, 0, none⟩ = some x ∧ w.cell? ⟨b, 1, none⟩ = some y := ⟨cell_of_row _ _ _ _ _ _ h, cell_of_row _ _ _ _ _ _ h⟩
theorem ownLab_form {w : World} {S : Nat → Prop} {v : Value} {l : Lab} (h : OwnLab w S v l) : ∃ A c B d, v = .agg #[.slice A l.shows.length c, .slice B l.steps.length d] := by
  obtain ⟨sv, tv, S1, S2, rfl, h1, h2, _⟩ := h
  obtain ⟨A, c, rfl⟩ := h1.form
  obtain ⟨B, d, rfl, _⟩ := h2.cells
  exact ⟨A, c, B, d, rfl⟩
structure VZ (n2 p1 p2 p3 : Nat) (y1 y2 x1 x2 g1 g2 : Value) (a R Q : Lab) (w : World) : Prop where
  by' : w.heap[p1]? = some (.cells #[y1, y2] 27)
  bx : w.heap[p2]? = some (.cells #[x1, x2] 27)
  bg : w.heap[p3]? = some (.cells #[g1, g2] 27)
  oy : OwnLab w (fun q => n2 ≤ q ∧ q < p1) (.agg #[y1, y2]) R
  ox : OwnLab w (fun q => p1 < q ∧ q < p2) (.agg #[x1, x2]) a
  og : OwnLab w (fun q => p2 < q ∧ q < p3) (.agg #[g1, g2]) Q
  l0 : n2 ≤ p1
  l1 : p1 < p2
  l2 : p2 < p3
  l3 : p3 < w.heap.size

variable {n2 p1 p2 p3 : Nat} {y1 y2 x1 x2 g1 g2 : Value} {a R Q : Lab} {w w' : World}
theorem VZ.below (h : VZ n2 p1 p2 p3 y1 y2 x1 x2 g1 g2 a R Q w) (hb : Below w.heap.size w w') : VZ n2 p1 p2 p3 y1 y2 x1 x2 g1 g2 a R Q w' := by
  have h1 := h.l1
  have h2 := h.l2
  have h3 := h.l3
  have hs := hb.size
  exact { h with by' := (hb.block _ (by omega)).trans h.by', bx := (hb.block _ (by omega)).trans h.bx, bg := (hb.block _ (by omega)).trans h.bg, oy := h.oy.below hb (Nat.le_refl _), ox := h.ox.below hb (Nat.le_refl _), og := h.og.below hb (Nat.le_refl _), l3 := by omega }
theorem VZ.cells (h : VZ n2 p1 p2 p3 y1 y2 x1 x2 g1 g2 a R Q w) : (w.cell? ⟨p1, 0, none⟩ = some y1 ∧ w.cell? ⟨p1, 1, none⟩ = some y2) ∧ (w.cell? ⟨p2, 0, none⟩ = some x1 ∧ w.cell? ⟨p2, 1, none⟩ = some x2) ∧ w.cell? ⟨p3, 0, none⟩ = some g1 ∧ w.cell? ⟨p3, 1, none⟩ = some g2 := ⟨box_cells' h.by', box_cells' h.bx, box_cells' h.bg⟩
end Go.Proofs.YtdgnhfhaaghoaaaGreatDoor

set_option linter.unusedVariables false
namespace Go.Proofs.YtdgnhfhaaghoaaaGreatDoor
open Go.RowKit

theorem info_gS : (Tryz.prog.info? 30).map (fun i => (i.zero, i.size, i.bytes)) = some (some (Value.slice none 0 0), 1, 24) := by kernel_rfl

set_option maxRecDepth 100000 in
set_option maxHeartbeats 4000000 in
theorem growS_any (n : Nat) (w : World) (h : n ≤ 1000000) :
    Calls Tryz.prog 158 #[.slice none 0 0, .int .i64 n] w fun e w' => ∃ v, e = .returned v ∧ w'.ownsRow w.heap.size 30 1 v 0 [] ∧ Below w.heap.size w w' := by
  obtain ⟨i0, hi, hz0, hz1, hz2⟩ := info_parts info_gS
  by_cases hn : n = 0
  · subst hn
    go_enter Tryz.func158, Tryz.ntmps158
    go_wp2_with fail
    go_ret
    exact ⟨_, rfl, World.ownsRow_nil _ _ _ _, Below.refl _ _⟩
  have happ := Lib.run_append_nil_zeros (P := Tryz.prog) w 24 3 24 30 i0 (Value.slice none 0 0) .i64 .i64 Tryz.underlying24 Tryz.underlying3 hi hz0 n (by omega) (by omega) (by omega) (by rw [hz2]; omega)
  have hcap1 := grownCap_ge w n 0 30
  have hcap2 := grownCap_le_maxLen w n 0 30 (by unfold maxLen; omega)
  generalize grownCap w n 0 30 = cap at *
  generalize hZ : (Builtin.zeroCells (Value.slice none 0 0).cells n ++ Builtin.zeroCells (Value.slice none 0 0).cells (cap - n)) = Z at happ
  have hZs : Z.size = cap := by rw [← hZ]; simp [size_zeroCells, Value.cells]; omega
  have hrow := owns_prefix (heap_alloc_new w.drew (.cells Z 30)) (B := w.heap.size) (Nat.le_refl _) hZs hcap2
  have HR := Lib.hid (show ((w.alloc (.cells Z 30)).drew).ownsRow w.heap.size 30 1 (.slice (some ⟨w.heap.size, 0, none⟩) 0 cap) 0 [] from hrow)
  have HB := Lib.hid (show Below w.heap.size w (w.alloc (.cells Z 30)).drew from (Below.refl _ w).drew.alloc (Nat.le_refl _) _)
  have hc0 : (0 : Int) ≤ (cap : Int) := by omega
  clear hZ hrow
  go_enter Tryz.func158, Tryz.ntmps158
  go_wp2_with (at_builtin; refine Lib.wpList_append_run _ rfl _ _ _ _ rfl _ _ rfl rfl _ _ happ ?_)
  go_ret
  exact ⟨_, rfl, HR.out, HB.out⟩

set_option maxRecDepth 100000 in
set_option maxHeartbeats 8000000 in
theorem concatS_any (v : Value) (yss : List (List Value)) (w : World) (hn : yss.length ≤ 1000) (hs : yss.flatten.length ≤ 1000000) (h1 : ∀ u ∈ yss.flatten, u.oneCell' = true) (hv : RVS w v yss) :
    Calls Tryz.prog 94 #[v] w fun e w' => ∃ r, e = .returned r ∧ w'.ownsRow w.heap.size 30 1 r yss.flatten.length yss.flatten ∧ Below w.heap.size w w' := by
  obtain ⟨i0, hi, hz0, hz1, hz2⟩ := info_parts info_gS
  have HV := Lib.hid (show ∀ W, Below w.heap.size w W → RVS W v yss from fun W hb => hv.below hb)
  have H1 := Lib.hid h1
  obtain ⟨A, c, vs, rfl, hvl, hc, hrow⟩ := hv
  clear h1
  go_enter Tryz.func94, Tryz.ntmps94
  go_wp2_with fail
  go_loop [3, 11] (fun z i => ∃ k : Nat, k ≤ yss.length ∧ i = .int .i64 k ∧ z = .int .i64 (flatTo yss k).length) (fun _ i => yss.length - (intOf i).toNat)
  case atStart => exact ⟨0, Nat.zero_le _, rfl, by rw [flatTo_zero]; rfl⟩
  case round =>
    obtain ⟨k, hk, rfl, rfl⟩ := hrel
    have hle := flatTo_le (yss := yss) (k := k)
    by_cases hlt : k < yss.length
    · have hku : k < vs.length := by omega
      obtain ⟨b, o, rfl, hcc⟩ := hc.at_ hku
      have hck := hcc k _ (List.getElem?_eq_getElem hku)
      obtain ⟨A1, c1, e1, _⟩ := hrow k _ _ (List.getElem?_eq_getElem hku) (List.getElem?_eq_getElem hlt)
      rw [e1] at hck
      have hnx := congrArg List.length (flatTo_next hlt)
      rw [List.length_append] at hnx
      have hle2 := flatTo_le (yss := yss) (k := k + 1)
      have HNX := Lib.hid hnx
      have hl2 : (flatTo yss k).length + yss[k].length ≤ 1000000 := by omega
      clear hcc hrow hc HV H1 hnx hle2 e1
      generalize yss[k].length = q at *
      generalize (flatTo yss k).length = p at *
      have hp : ¬ ((p : Int) + (q : Int) < 0) := by omega
      go_wp2_with fail
      go_round
      case rel => exact ⟨k + 1, by omega, by go_num, by rw [HNX.out]; go_num⟩
      case measure => simp [intOf]; omega
    · obtain rfl : k = yss.length := by omega
      rw [flatTo_all]
      have HGR := Lib.hid (growS_any yss.flatten.length w hs)
      have HLE := Lib.hid (fun k => flatTo_le (yss := yss) (k := k))
      clear hc hrow hle
      generalize hFL : yss.flatten.length = FL at *
      have HFL := Lib.hid hFL
      clear hFL
      go_wp2_with fail
      refine HGR.out.mono ?_
      rintro e w1 ⟨u, rfl, hu, hb1⟩
      have HU := Lib.hid hu
      have HB1 := Lib.hid hb1
      clear hu hb1
      go_wp2_with fail
      go_loopw [6, 27] (fun u i wr => ∃ k : Nat, k ≤ yss.length ∧ i = .int .i64 k ∧ wr.ownsRow w.heap.size 30 1 u (flatTo yss k).length (flatTo yss k) ∧ Below w.heap.size w wr)
        (fun _ i _ => yss.length - (intOf i).toNat)
      case atStart => exact ⟨0, Nat.zero_le _, rfl, by rw [flatTo_zero]; exact HU.out, HB1.out⟩
      case round =>
        clear HU HB1
        obtain ⟨k, hk, rfl, hown, hbel⟩ := hrel
        obtain ⟨AU, cU, rfl, hown⟩ := owns_form hown
        have hle := HLE.out k
        by_cases hlt : k < yss.length
        · obtain ⟨A', c', vs', e, hvl', hcB, hrow⟩ := HV.out wr hbel
          cases e
          obtain ⟨b, o, rfl, hcb⟩ := hcB.at_ (k := k) (by omega)
          have hck := hcb k _ (List.getElem?_eq_getElem (by omega))
          obtain ⟨A3, c3, e3, hc3⟩ := hrow k _ _ (List.getElem?_eq_getElem (by omega)) (List.getElem?_eq_getElem hlt)
          rw [e3] at hck
          have hnx := flatTo_next hlt
          have hone : ∀ u ∈ yss[k], u.oneCell' = true := fun u hu => H1.out u (List.mem_flatten.2 ⟨_, List.getElem_mem hlt, hu⟩)
          have hle2 := HLE.out (k + 1)
          rw [hnx, List.length_append] at hle2
          have HNX := Lib.hid hnx
          have HO := Lib.hid hown
          have HB := Lib.hid hbel
          have HC3 := Lib.hid hc3
          have HONE := Lib.hid hone
          have hl2 : (flatTo yss k).length + yss[k].length ≤ 1000000 := by omega
          clear hcB hcb hrow e3 hc3 hnx hown hbel hone hle2 hle
          generalize yss[k] = ys at *
          generalize flatTo yss k = fk at *
          cases A3 with
          | none =>
            have h0 : ys = [] := cells_none HC3.out
            subst h0
            go_wp2_with (at_builtin; refine wpList_append_none_cap rfl _ _ 24 rfl w.heap.size 30 i0 1 Tryz.underlying24 hi _ _ _ _ rfl HO.out rfl ?_)
            go_roundw
            case rel => exact ⟨k + 1, by omega, by go_num, by rw [HNX.out, List.append_nil]; exact HO.out, HB.out⟩
            case measure => simp [intOf]; omega
          | some ad =>
            go_wp2_with (at_builtin; refine wpList_append_own _ rfl _ _ 24 rfl w.heap.size 30 i0 (Value.slice none 0 0) 1 24 Tryz.underlying24 hi hz0 hz1 hz2 rfl (by decide) _ _ _ rfl HO.out ad ys.length c3 ys rfl (by simp) (cells_add HC3.out) HONE.out (by unfold maxLen; omega) (by omega) HB.out.size ?_; intro v2 w2 hown2 hgrow2 _)
            rw [← List.length_append, ← HNX.out] at hown2
            have HO2 := Lib.hid hown2
            have HG := Lib.hid (HB.out.grown hgrow2 HB.out.size (fun q hq => (HO.out.lt q hq).1))
            clear hown2 hgrow2
            go_wp2_with fail
            go_roundw
            case rel => exact ⟨k + 1, by omega, by go_num, HO2.out, HG.out⟩
            case measure => simp [intOf]; omega
        · obtain rfl : k = yss.length := by omega
          have HO := Lib.hid hown
          have HB := Lib.hid hbel
          clear hown hbel
          go_wp2_with fail
          go_ret
          refine ⟨_, rfl, ?_, HB.out⟩
          rw [show yss.flatten = flatTo yss yss.length from (flatTo_all yss).symm]
          exact HO.out

end Go.Proofs.YtdgnhfhaaghoaaaGreatDoor
