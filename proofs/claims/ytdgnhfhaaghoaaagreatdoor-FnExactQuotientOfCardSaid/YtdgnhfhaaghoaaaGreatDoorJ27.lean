/- slices.Grow of nil and slices.Concat at []int: library walked. -/
import Derived.Test.YtdgnhfhaaghoaaaGreatDoorProg
import Derived.Test.YtdgnhfhaaghoaaaGreatDoorJ22
import Derived.Lib.AppendZeros
set_option linter.unusedVariables false
namespace Go.Proofs.YtdgnhfhaaghoaaaGreatDoor
open Go.RowKit

/-- A slice of slices of one-cell elements, as read. -/
def RVS (w : World) (v : Value) (yss : List (List Value)) : Prop :=
  ∃ A c vs, v = .slice A yss.length c ∧ vs.length = yss.length ∧ Cells w A vs ∧ ∀ (i : Nat) u ys, vs[i]? = some u → yss[i]? = some ys → ∃ A1 c1, u = .slice A1 ys.length c1 ∧ Cells w A1 ys

theorem RVS.below {w w' : World} {v : Value} {yss : List (List Value)} (h : RVS w v yss) (hb : Below w.heap.size w w') : RVS w' v yss := by
  obtain ⟨A, c, vs, e, hl, hc, hi⟩ := h
  refine ⟨A, c, vs, e, hl, hc.below hb, fun i u ys h1 h2 => ?_⟩
  obtain ⟨A1, c1, e1, h3⟩ := hi i u ys h1 h2
  exact ⟨A1, c1, e1, h3.below hb⟩

/-- The cells of the first k slices. -/
def flatTo (yss : List (List Value)) (k : Nat) : List Value := (yss.take k).flatten
theorem flatTo_zero (yss : List (List Value)) : flatTo yss 0 = [] := by simp [flatTo]
theorem flatTo_all (yss : List (List Value)) : flatTo yss yss.length = yss.flatten := by simp [flatTo]
theorem flatTo_next {yss : List (List Value)} {k : Nat} (h : k < yss.length) : flatTo yss (k + 1) = flatTo yss k ++ yss[k] := by
  unfold flatTo
  rw [List.take_succ_eq_append_getElem h, List.flatten_append]
  simp
theorem flatTo_le {yss : List (List Value)} {k : Nat} : (flatTo yss k).length ≤ yss.flatten.length := by
  have := congrArg List.length (congrArg List.flatten (List.take_append_drop k yss))
  rw [List.flatten_append, List.length_append] at this
  unfold flatTo
  omega
theorem owns_prefix {w : World} {B g : Nat} {e : TypeId} {Z : Array Value} {cap : Nat} (hg : w.heap[g]? = some (.cells Z e)) (hB : B ≤ g) (hZ : Z.size = cap) (hm : cap ≤ maxLen) : w.ownsRow B e 1 (.slice (some ⟨g, 0, none⟩) 0 cap) 0 [] :=
  ⟨rfl, .inr ⟨g, cap, Z, rfl, hB, hg, Nat.zero_le _, hm, by rw [hZ, Nat.mul_one], by simp⟩⟩

theorem info_gI : (Tryz.prog.info? 3).map (fun i => (i.zero, i.size, i.bytes)) = some (some (Value.int .i64 0), 1, 8) := by kernel_rfl

set_option maxRecDepth 100000 in
set_option maxHeartbeats 4000000 in
theorem growI_any (n : Nat) (w : World) (h : n ≤ 1000000) :
    Calls Tryz.prog 177 #[.slice none 0 0, .int .i64 n] w fun e w' => ∃ v, e = .returned v ∧ w'.ownsRow w.heap.size 3 1 v 0 [] ∧ Below w.heap.size w w' := by
  obtain ⟨i0, hi, hz0, hz1, hz2⟩ := info_parts info_gI
  by_cases hn : n = 0
  · subst hn
    go_enter Tryz.func177, Tryz.ntmps177
    go_wp2_with fail
    go_ret
    exact ⟨_, rfl, World.ownsRow_nil _ _ _ _, Below.refl _ _⟩
  have happ := Lib.run_append_nil_zeros (P := Tryz.prog) w 30 3 30 3 i0 (Value.int .i64 0) .i64 .i64 Tryz.underlying30 Tryz.underlying3 hi hz0 n (by omega) (by omega) (by omega) (by rw [hz2]; omega)
  have hcap1 := grownCap_ge w n 0 3
  have hcap2 := grownCap_le_maxLen w n 0 3 (by unfold maxLen; omega)
  generalize grownCap w n 0 3 = cap at *
  generalize hZ : (Builtin.zeroCells (Value.int .i64 0).cells n ++ Builtin.zeroCells (Value.int .i64 0).cells (cap - n)) = Z at happ
  have hZs : Z.size = cap := by rw [← hZ]; simp [size_zeroCells, Value.cells]; omega
  have hrow := owns_prefix (heap_alloc_new w.drew (.cells Z 3)) (B := w.heap.size) (Nat.le_refl _) hZs hcap2
  have HR := Lib.hid (show ((w.alloc (.cells Z 3)).drew).ownsRow w.heap.size 3 1 (.slice (some ⟨w.heap.size, 0, none⟩) 0 cap) 0 [] from hrow)
  have HB := Lib.hid (show Below w.heap.size w (w.alloc (.cells Z 3)).drew from (Below.refl _ w).drew.alloc (Nat.le_refl _) _)
  have hc0 : (0 : Int) ≤ (cap : Int) := by omega
  clear hZ hrow
  go_enter Tryz.func177, Tryz.ntmps177
  go_wp2_with (at_builtin; refine Lib.wpList_append_run _ rfl _ _ _ _ rfl _ _ rfl rfl _ _ happ ?_)
  go_ret
  exact ⟨_, rfl, HR.out, HB.out⟩

set_option maxRecDepth 100000 in
set_option maxHeartbeats 8000000 in
theorem concatI_any (v : Value) (yss : List (List Value)) (w : World) (hn : yss.length ≤ 1000) (hs : yss.flatten.length ≤ 1000000) (h1 : ∀ u ∈ yss.flatten, u.oneCell' = true) (hv : RVS w v yss) :
    Calls Tryz.prog 152 #[v] w fun e w' => ∃ r, e = .returned r ∧ w'.ownsRow w.heap.size 3 1 r yss.flatten.length yss.flatten ∧ Below w.heap.size w w' := by
  obtain ⟨i0, hi, hz0, hz1, hz2⟩ := info_parts info_gI
  have HV := Lib.hid (show ∀ W, Below w.heap.size w W → RVS W v yss from fun W hb => hv.below hb)
  have H1 := Lib.hid h1
  obtain ⟨A, c, vs, rfl, hvl, hc, hrow⟩ := hv
  clear h1
  go_enter Tryz.func152, Tryz.ntmps152
  go_wp2_with fail
  go_loop [3, 11] (fun z i => ∃ k : Nat, k ≤ yss.length ∧ i = .int .i64 k ∧ z = .int .i64 (flatTo yss k).length) (fun _ i => yss.length - (intOf i).toNat)
  case atStart => exact ⟨0, Nat.zero_le _, rfl, by rw [flatTo_zero]; rfl⟩
  case round =>
    obtain ⟨k, hk, rfl, rfl⟩ := hrel
    have hle := flatTo_le (yss := yss) (k := k)
    by_cases hlt : k < yss.length
    · have hku : k < vs.length := by omega
      obtain ⟨b, o, rfl, hcc⟩ := hc.at_ hku
      have hck := hcc k _ (List.getElem?_eq_getElem hku)
      obtain ⟨A1, c1, e1, _⟩ := hrow k _ _ (List.getElem?_eq_getElem hku) (List.getElem?_eq_getElem hlt)
      rw [e1] at hck
      have hnx := congrArg List.length (flatTo_next hlt)
      rw [List.length_append] at hnx
      have hle2 := flatTo_le (yss := yss) (k := k + 1)
      have HNX := Lib.hid hnx
      have hl2 : (flatTo yss k).length + yss[k].length ≤ 1000000 := by omega
      clear hcc hrow hc HV H1 hnx hle2 e1
      generalize yss[k].length = q at *
      generalize (flatTo yss k).length = p at *
      have hp : ¬ ((p : Int) + (q : Int) < 0) := by omega
      go_wp2_with fail
      go_round
      case rel => exact ⟨k + 1, by omega, by go_num, by rw [HNX.out]; go_num⟩
      case measure => simp [intOf]; omega
    · obtain rfl : k = yss.length := by omega
      rw [flatTo_all]
      have HGR := Lib.hid (growI_any yss.flatten.length w hs)
      have HLE := Lib.hid (fun k => flatTo_le (yss := yss) (k := k))
      clear hc hrow hle
      generalize hFL : yss.flatten.length = FL at *
      have HFL := Lib.hid hFL
      clear hFL
      go_wp2_with fail
      refine HGR.out.mono ?_
      rintro e w1 ⟨u, rfl, hu, hb1⟩
      have HU := Lib.hid hu
      have HB1 := Lib.hid hb1
      clear hu hb1
      go_wp2_with fail
      go_loopw [6, 27] (fun u i wr => ∃ k : Nat, k ≤ yss.length ∧ i = .int .i64 k ∧ wr.ownsRow w.heap.size 3 1 u (flatTo yss k).length (flatTo yss k) ∧ Below w.heap.size w wr)
        (fun _ i _ => yss.length - (intOf i).toNat)
      case atStart => exact ⟨0, Nat.zero_le _, rfl, by rw [flatTo_zero]; exact HU.out, HB1.out⟩
      case round =>
        clear HU HB1
        obtain ⟨k, hk, rfl, hown, hbel⟩ := hrel
        obtain ⟨AU, cU, rfl, hown⟩ := owns_form hown
        have hle := HLE.out k
        by_cases hlt : k < yss.length
        · obtain ⟨A', c', vs', e, hvl', hcB, hrow⟩ := HV.out wr hbel
          cases e
          obtain ⟨b, o, rfl, hcb⟩ := hcB.at_ (k := k) (by omega)
          have hck := hcb k _ (List.getElem?_eq_getElem (by omega))
          obtain ⟨A3, c3, e3, hc3⟩ := hrow k _ _ (List.getElem?_eq_getElem (by omega)) (List.getElem?_eq_getElem hlt)
          rw [e3] at hck
          have hnx := flatTo_next hlt
          have hone : ∀ u ∈ yss[k], u.oneCell' = true := fun u hu => H1.out u (List.mem_flatten.2 ⟨_, List.getElem_mem hlt, hu⟩)
          have hle2 := HLE.out (k + 1)
          rw [hnx, List.length_append] at hle2
          have HNX := Lib.hid hnx
          have HO := Lib.hid hown
          have HB := Lib.hid hbel
          have HC3 := Lib.hid hc3
          have HONE := Lib.hid hone
          have hl2 : (flatTo yss k).length + yss[k].length ≤ 1000000 := by omega
          clear hcB hcb hrow e3 hc3 hnx hown hbel hone hle2 hle
          generalize yss[k] = ys at *
          generalize flatTo yss k = fk at *
          cases A3 with
          | none =>
            have h0 : ys = [] := cells_none HC3.out
            subst h0
            go_wp2_with (at_builtin; refine wpList_append_none_cap rfl _ _ 30 rfl w.heap.size 3 i0 1 Tryz.underlying30 hi _ _ _ _ rfl HO.out rfl ?_)
            go_roundw
            case rel => exact ⟨k + 1, by omega, by go_num, by rw [HNX.out, List.append_nil]; exact HO.out, HB.out⟩
            case measure => simp [intOf]; omega
          | some ad =>
            go_wp2_with (at_builtin; refine wpList_append_own _ rfl _ _ 30 rfl w.heap.size 3 i0 (Value.int .i64 0) 1 8 Tryz.underlying30 hi hz0 hz1 hz2 rfl (by decide) _ _ _ rfl HO.out ad ys.length c3 ys rfl (by simp) (cells_add HC3.out) HONE.out (by unfold maxLen; omega) (by omega) HB.out.size ?_; intro v2 w2 hown2 hgrow2 _)
            rw [← List.length_append, ← HNX.out] at hown2
            have HO2 := Lib.hid hown2
            have HG := Lib.hid (HB.out.grown hgrow2 HB.out.size (fun q hq => (HO.out.lt q hq).1))
            clear hown2 hgrow2
            go_wp2_with fail
            go_roundw
            case rel => exact ⟨k + 1, by omega, by go_num, HO2.out, HG.out⟩
            case measure => simp [intOf]; omega
        · obtain rfl : k = yss.length := by omega
          have HO := Lib.hid hown
          have HB := Lib.hid hbel
          clear hown hbel
          go_wp2_with fail
          go_ret
          refine ⟨_, rfl, ?_, HB.out⟩
          rw [show yss.flatten = flatTo yss yss.length from (flatTo_all yss).symm]
          exact HO.out

end Go.Proofs.YtdgnhfhaaghoaaaGreatDoor
