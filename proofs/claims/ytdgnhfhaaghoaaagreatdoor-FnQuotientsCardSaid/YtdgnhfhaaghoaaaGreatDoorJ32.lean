/- slices.Grow of nil and slices.Concat at []int: library walked. Labelled systems: silent ways. Plain law: the reference's tables and the program's searches tell the same ways, and the same saturated system. Labelled systems: the saturated system, and the quotient. Plain law: program and reference list the same. Numbers sorted: slices.Sort; either walked. -/
import Derived.Test.YtdgnhfhaaghoaaaGreatDoorProg
import Derived.Test.YtdgnhfhaaghoaaaGreatDoorJ2
import Derived.Lib.AppendZeros
import Derived.Test.YtdgnhfhaaghoaaaGreatDoorJ13
import Derived.Test.YtdgnhfhaaghoaaaGreatDoorJ14
import Derived.Test.YtdgnhfhaaghoaaaGreatDoorJ6
import Derived.Test.YtdgnhfhaaghoaaaGreatDoorJ31
import Derived.Sort.OwnSortedInts
set_option linter.unusedSimpArgs false
set_option linter.unusedVariables false
namespace Go.Proofs.YtdgnhfhaaghoaaaGreatDoor
open Go.RowKit

/-- A slice of slices of one-cell elements, as read. -/
def RVS (w : World) (v : Value) (yss : List (List Value)) : Prop :=
  ∃ A c vs, v = .slice A yss.length c ∧ vs.length = yss.length ∧ Cells w A vs ∧ ∀ (i : Nat) u ys, vs[i]? = some u → yss[i]? = some ys → ∃ A1 c1, u = .slice A1 ys.length c1 ∧ Cells w A1 ys

theorem RVS.below {w w' : World} {v : Value} {yss : List (List Value)} (h : RVS w v yss) (hb : Below w.heap.size w w') : RVS w' v yss := by
  obtain ⟨A, c, vs, e, hl, hc, hi⟩ := h
  refine ⟨A, c, vs, e, hl, hc.below hb, fun i u ys h1 h2 => ?_⟩
  obtain ⟨A1, c1, e1, h3⟩ := hi i u ys h1 h2
  exact ⟨A1, c1, e1, h3.below hb⟩

/-- The cells of the first k slices. -/
def flatTo (yss : List (List Value)) (k : Nat) : List Value := (yss.take k).flatten
theorem flatTo_zero (yss : List (List Value)) : flatTo yss 0 = [] := by simp [flatTo]
theorem flatTo_all (yss : List (List Value)) : flatTo yss yss.length = yss.flatten := by simp [flatTo]
theorem flatTo_next {yss : List (List Value)} {k : Nat} (h : k < yss.length) : flatTo yss (k + 1) = flatTo yss k ++ yss[k] := by
  unfold flatTo
  rw [List.take_succ_eq_append_getElem h, List.flatten_append]
  simp
theorem flatTo_le {yss : List (List Value)} {k : Nat} : (flatTo yss k).length ≤ yss.flatten.length := by
  have := congrArg List.length (congrArg List.flatten (List.take_append_drop k yss))
  rw [List.flatten_append, List.length_append] at this
  unfold flatTo
  omega
theorem owns_prefix {w : World} {B g : Nat} {e : TypeId} {Z : Array Value} {cap : Nat} (hg : w.heap[g]? = some (.cells Z e)) (hB : B ≤ g) (hZ : Z.size = cap) (hm : cap ≤ maxLen) : w.ownsRow B e 1 (.slice (some ⟨g, 0, none⟩) 0 cap) 0 [] :=
  ⟨rfl, .inr ⟨g, cap, Z, rfl, hB, hg, Nat.zero_le _, hm, by rw [hZ, Nat.mul_one], by simp⟩⟩

theorem info_gI : (Tryz.prog.info? 3).map (fun i => (i.zero, i.size, i.bytes)) = some (some (Value.int .i64 0), 1, 8) := by kernel_rfl

set_option maxRecDepth 100000 in
set_option maxHeartbeats 4000000 in
theorem growI_any (n : Nat) (w : World) (h : n ≤ 1000000) :
    Calls Tryz.prog 177 #[.slice none 0 0, .int .i64 n] w fun e w' => ∃ v, e = .returned v ∧ w'.ownsRow w.heap.size 3 1 v 0 [] ∧ Below w.heap.size w w' := by
  obtain ⟨i0, hi, hz0, hz1, hz2⟩ := info_parts info_gI
  by_cases hn : n = 0
  · subst hn
    go_enter Tryz.func177, Tryz.ntmps177
    go_wp2_with fail
    go_ret
    exact ⟨_, rfl, World.ownsRow_nil _ _ _ _, Below.refl _ _⟩
  have happ := Lib.run_append_nil_zeros (P := Tryz.prog) w 30 3 30 3 i0 (Value.int .i64 0) .i64 .i64 Tryz.underlying30 Tryz.underlying3 hi hz0 n (by omega) (by omega) (by omega) (by rw [hz2]; omega)
  have hcap1 := grownCap_ge w n 0 3
  have hcap2 := grownCap_le_maxLen w n 0 3 (by unfold maxLen; omega)
  generalize grownCap w n 0 3 = cap at *
  generalize hZ : (Builtin.zeroCells (Value.int .i64 0).cells n ++ Builtin.zeroCells (Value.int .i64 0).cells (cap - n)) = Z at happ
  have hZs : Z.size = cap := by rw [← hZ]; simp [size_zeroCells, Value.cells]; omega
  have hrow := owns_prefix (heap_alloc_new w.drew (.cells Z 3)) (B := w.heap.size) (Nat.le_refl _) hZs hcap2
  have HR := Lib.hid (show ((w.alloc (.cells Z 3)).drew).ownsRow w.heap.size 3 1 (.slice (some ⟨w.heap.size, 0, none⟩) 0 cap) 0 [] from hrow)
  have HB := Lib.hid (show Below w.heap.size w (w.alloc (.cells Z 3)).drew from (Below.refl _ w).drew.alloc (Nat.le_refl _) _)
  have hc0 : (0 : Int) ≤ (cap : Int) := by omega
  clear hZ hrow
  go_enter Tryz.func177, Tryz.ntmps177
  go_wp2_with (at_builtin; refine Lib.wpList_append_run _ rfl _ _ _ _ rfl _ _ rfl rfl _ _ happ ?_)
  go_ret
  exact ⟨_, rfl, HR.out, HB.out⟩

set_option maxRecDepth 100000 in
set_option maxHeartbeats 8000000 in
theorem concatI_any (v : Value) (yss : List (List Value)) (w : World) (hn : yss.length ≤ 1000) (hs : yss.flatten.length ≤ 1000000) (h1 : ∀ u ∈ yss.flatten, u.oneCell' = true) (hv : RVS w v yss) :
    Calls Tryz.prog 152 #[v] w fun e w' => ∃ r, e = .returned r ∧ w'.ownsRow w.heap.size 3 1 r yss.flatten.length yss.flatten ∧ Below w.heap.size w w' := by
  obtain ⟨i0, hi, hz0, hz1, hz2⟩ := info_parts info_gI
  have HV := Lib.hid (show ∀ W, Below w.heap.size w W → RVS W v yss from fun W hb => hv.below hb)
  have H1 := Lib.hid h1
  obtain ⟨A, c, vs, rfl, hvl, hc, hrow⟩ := hv
  clear h1
  go_enter Tryz.func152, Tryz.ntmps152
  go_wp2_with fail
  go_loop [3, 11] (fun z i => ∃ k : Nat, k ≤ yss.length ∧ i = .int .i64 k ∧ z = .int .i64 (flatTo yss k).length) (fun _ i => yss.length - (intOf i).toNat)
  case atStart => exact ⟨0, Nat.zero_le _, rfl, by rw [flatTo_zero]; rfl⟩
  case round =>
    obtain ⟨k, hk, rfl, rfl⟩ := hrel
    have hle := flatTo_le (yss := yss) (k := k)
    by_cases hlt : k < yss.length
    · have hku : k < vs.length := by omega
      obtain ⟨b, o, rfl, hcc⟩ := hc.at_ hku
      have hck := hcc k _ (List.getElem?_eq_getElem hku)
      obtain ⟨A1, c1, e1, _⟩ := hrow k _ _ (List.getElem?_eq_getElem hku) (List.getElem?_eq_getElem hlt)
      rw [e1] at hck
      have hnx := congrArg List.length (flatTo_next hlt)
      rw [List.length_append] at hnx
      have hle2 := flatTo_le (yss := yss) (k := k + 1)
      have HNX := Lib.hid hnx
      have hl2 : (flatTo yss k).length + yss[k].length ≤ 1000000 := by omega
      clear hcc hrow hc HV H1 hnx hle2 e1
      generalize yss[k].length = q at *
      generalize (flatTo yss k).length = p at *
      have hp : ¬ ((p : Int) + (q : Int) < 0) := by omega
      go_wp2_with fail
      go_round
      case rel => exact ⟨k + 1, by omega, by go_num, by rw [HNX.out]; go_num⟩
      case measure => simp [intOf]; omega
    · obtain rfl : k = yss.length := by omega
      rw [flatTo_all]
      have HGR := Lib.hid (growI_any yss.flatten.length w hs)
      have HLE := Lib.hid (fun k => flatTo_le (yss := yss) (k := k))
      clear hc hrow hle
      generalize hFL : yss.flatten.length = FL at *
      have HFL := Lib.hid hFL
      clear hFL
      go_wp2_with fail
      refine HGR.out.mono ?_
      rintro e w1 ⟨u, rfl, hu, hb1⟩
      have HU := Lib.hid hu
      have HB1 := Lib.hid hb1
      clear hu hb1
      go_wp2_with fail
      go_loopw [6, 27] (fun u i wr => ∃ k : Nat, k ≤ yss.length ∧ i = .int .i64 k ∧ wr.ownsRow w.heap.size 3 1 u (flatTo yss k).length (flatTo yss k) ∧ Below w.heap.size w wr)
        (fun _ i _ => yss.length - (intOf i).toNat)
      case atStart => exact ⟨0, Nat.zero_le _, rfl, by rw [flatTo_zero]; exact HU.out, HB1.out⟩
      case round =>
        clear HU HB1
        obtain ⟨k, hk, rfl, hown, hbel⟩ := hrel
        obtain ⟨AU, cU, rfl, hown⟩ := owns_form hown
        have hle := HLE.out k
        by_cases hlt : k < yss.length
        · obtain ⟨A', c', vs', e, hvl', hcB, hrow⟩ := HV.out wr hbel
          cases e
          obtain ⟨b, o, rfl, hcb⟩ := hcB.at_ (k := k) (by omega)
          have hck := hcb k _ (List.getElem?_eq_getElem (by omega))
          obtain ⟨A3, c3, e3, hc3⟩ := hrow k _ _ (List.getElem?_eq_getElem (by omega)) (List.getElem?_eq_getElem hlt)
          rw [e3] at hck
          have hnx := flatTo_next hlt
          have hone : ∀ u ∈ yss[k], u.oneCell' = true := fun u hu => H1.out u (List.mem_flatten.2 ⟨_, List.getElem_mem hlt, hu⟩)
          have hle2 := HLE.out (k + 1)
          rw [hnx, List.length_append] at hle2
          have HNX := Lib.hid hnx
          have HO := Lib.hid hown
          have HB := Lib.hid hbel
          have HC3 := Lib.hid hc3
          have HONE := Lib.hid hone
          have hl2 : (flatTo yss k).length + yss[k].length ≤ 1000000 := by omega
          clear hcB hcb hrow e3 hc3 hnx hown hbel hone hle2 hle
          generalize yss[k] = ys at *
          generalize flatTo yss k = fk at *
          cases A3 with
          | none =>
            have h0 : ys = [] := cells_none HC3.out
            subst h0
            go_wp2_with (at_builtin; refine wpList_append_none_cap rfl _ _ 30 rfl w.heap.size 3 i0 1 Tryz.underlying30 hi _ _ _ _ rfl HO.out rfl ?_)
            go_roundw
            case rel => exact ⟨k + 1, by omega, by go_num, by rw [HNX.out, List.append_nil]; exact HO.out, HB.out⟩
            case measure => simp [intOf]; omega
          | some ad =>
            go_wp2_with (at_builtin; refine wpList_append_own _ rfl _ _ 30 rfl w.heap.size 3 i0 (Value.int .i64 0) 1 8 Tryz.underlying30 hi hz0 hz1 hz2 rfl (by decide) _ _ _ rfl HO.out ad ys.length c3 ys rfl (by simp) (cells_add HC3.out) HONE.out (by unfold maxLen; omega) (by omega) HB.out.size ?_; intro v2 w2 hown2 hgrow2 _)
            rw [← List.length_append, ← HNX.out] at hown2
            have HO2 := Lib.hid hown2
            have HG := Lib.hid (HB.out.grown hgrow2 HB.out.size (fun q hq => (HO.out.lt q hq).1))
            clear hown2 hgrow2
            go_wp2_with fail
            go_roundw
            case rel => exact ⟨k + 1, by omega, by go_num, HO2.out, HG.out⟩
            case measure => simp [intOf]; omega
        · obtain rfl : k = yss.length := by omega
          have HO := Lib.hid hown
          have HB := Lib.hid hbel
          clear hown hbel
          go_wp2_with fail
          go_ret
          refine ⟨_, rfl, ?_, HB.out⟩
          rw [show yss.flatten = flatTo yss yss.length from (flatTo_all yss).symm]
          exact HO.out

end Go.Proofs.YtdgnhfhaaghoaaaGreatDoor

set_option linter.unusedVariables false
namespace Go.Proofs.YtdgnhfhaaghoaaaGreatDoor

section
variable {n : Nat} {ss : List I3}
end

end Go.Proofs.YtdgnhfhaaghoaaaGreatDoor

set_option linter.unusedVariables false
namespace Go.Proofs.YtdgnhfhaaghoaaaGreatDoor

/-! The quotient. -/

def isRep (l : Lab) (i : Nat) : Bool := (lastL l).getD i 0 == (i : Int)
def repsI (l : Lab) : List Int := ((List.range l.shows.length).filter (isRep l)).map fun (i : Nat) => (i : Int)
/-- The place of a state among those that are the least of their part. -/
def posR (l : Lab) (i : Nat) : Nat := ((List.range i).filter (isRep l)).length

theorem reps_sorted (l : Lab) : (repsI l).Pairwise (· < ·) := by
  unfold repsI
  rw [List.pairwise_map]
  exact List.Pairwise.imp (by intro a b h; omega) (List.pairwise_lt_range.filter _)
theorem last_rep (l : Lab) {i : Nat} (hi : i < l.shows.length) : ∃ k : Nat, (lastL l).getD i 0 = (k : Int) ∧ k < l.shows.length ∧ isRep l k = true := by
  obtain ⟨k, h1, h2, h3, _⟩ := parts_spec l l.shows.length hi
  have hk : k < l.shows.length := by omega
  refine ⟨k, h1, hk, ?_⟩
  unfold isRep
  rw [beq_iff_eq]
  have := (parts_iff l l.shows.length hk hi).2 h3
  unfold lastL
  rw [this, h1]
theorem reps_mem (l : Lab) (x : Int) : x ∈ repsI l ↔ x ∈ lastL l := by
  have hl : (lastL l).length = l.shows.length := parts_len l _
  unfold repsI
  simp only [List.mem_map, List.mem_filter, List.mem_range]
  constructor
  · rintro ⟨i, ⟨hi, hr⟩, rfl⟩
    unfold isRep at hr
    rw [beq_iff_eq] at hr
    rw [← hr]
    simp [List.getD, show i < (lastL l).length by omega]
  · intro hx
    obtain ⟨j, hj, e⟩ := List.getElem_of_mem hx
    obtain ⟨k, h1, h2, h3⟩ := last_rep l (i := j) (by omega)
    have : (lastL l).getD j 0 = x := by simp [List.getD, hj, e]
    exact ⟨k, ⟨h2, h3⟩, by rw [← h1, this]⟩
theorem range_at {p : Nat → Bool} : ∀ {n i : Nat}, i < n → p i = true → ((List.range n).filter p)[((List.range i).filter p).length]? = some i
  | 0, i, hi, _ => by omega
  | n + 1, i, hi, hp => by
    rw [List.range_succ, List.filter_append]
    by_cases h : i < n
    · have ih := range_at h hp
      rw [List.getElem?_append_left (List.getElem?_eq_some_iff.1 ih).1]
      exact ih
    · obtain rfl : i = n := by omega
      rw [List.getElem?_append_right (Nat.le_refl _), Nat.sub_self, List.filter_cons, if_pos hp]
      rfl
theorem reps_at (l : Lab) {i : Nat} (hi : i < l.shows.length) (hr : isRep l i = true) : (repsI l)[posR l i]? = some (i : Int) := by
  unfold repsI posR
  rw [List.getElem?_map, range_at hi hr]
  rfl
theorem reps_idx (l : Lab) {i : Nat} (hi : i < l.shows.length) (hr : isRep l i = true) : idxR (repsI l).length (fun k => (repsI l).getD k 0 == (i : Int)) = (posR l i : Int) := by
  have h := reps_at l hi hr
  obtain ⟨hl, e⟩ := List.getElem?_eq_some_iff.1 h
  refine idxR_some hl (fun j hj => ?_) ?_
  · have hs := (List.pairwise_iff_getElem.1 (reps_sorted l)) j (posR l i) (by omega) hl hj
    rw [e] at hs
    rw [beq_eq_false_iff_ne]
    simp [List.getD, show j < (repsI l).length by omega]
    omega
  · rw [beq_iff_eq]
    simp [List.getD, h]
theorem reps_no (l : Lab) {i : Nat} (hr : isRep l i = false) : idxR (repsI l).length (fun k => (repsI l).getD k 0 == (i : Int)) = -1 := by
  refine idxR_none fun j hj => ?_
  rw [beq_eq_false_iff_ne]
  intro e
  have : (i : Int) ∈ repsI l := by
    rw [← e]
    simp [List.getD, hj]
  unfold repsI at this
  simp only [List.mem_map, List.mem_filter, List.mem_range] at this
  obtain ⟨k, ⟨_, hk⟩, e⟩ := this
  obtain rfl : k = i := by omega
  rw [hr] at hk
  cases hk

def quoSteps (l : Lab) : List I3 := (l.steps.filter fun s => isRep l s.1.toNat).map fun s => ((posR l s.1.toNat : Int), s.2.1, (posR l ((lastL l).getD s.2.2.toNat 0).toNat : Int))
def quoL (l : Lab) : Lab := ⟨(repsI l).map fun i => l.shows.getD i.toNat [], sortT (quoSteps l)⟩

end Go.Proofs.YtdgnhfhaaghoaaaGreatDoor

set_option linter.unusedVariables false
namespace Go.Proofs.YtdgnhfhaaghoaaaGreatDoor
open Go.RowKit
open Go.Sort (grow)

theorem sortI_any (g c : Nat) (zs : List Int) (B : Nat) (w : World) (hn : zs.length ≤ 16777216) (h : w.ownsRow B 3 1 (.slice (some ⟨g, 0, none⟩) zs.length c) zs.length (ints zs)) :
    Calls Tryz.prog 153 #[.slice (some ⟨g, 0, none⟩) zs.length c] w fun e w' => e = .returned (.tuple #[]) ∧
      w'.ownsRow B 3 1 (.slice (some ⟨g, 0, none⟩) zs.length c) zs.length (ints (zs.mergeSort fun x y => decide (x ≤ y))) ∧ w.grownBy w' (some g) := by
  rcases h.2 with ⟨e, _⟩ | ⟨g', cap, cur, e, hb, hg, h1, h2, h3, h4⟩
  · cases e
  · cases e
    have h4' : cur.toList.take zs.length = zs.map (Value.int .i64) := by simpa using h4
    refine (Any.slices_Sort_int Tryz.lays189 g 0 c zs w (holds_of_blockI hg h4') (Array.getElem?_eq_some_iff.1 hg).1 (by omega)).mono ?_
    rintro e w' ⟨rfl, n, os, rfl⟩
    refine ⟨rfl, ?_, grownBy_sortedI _⟩
    exact ownsRow_sortedI (by simp [List.length_mergeSort]) hb hg h1 h2 h3

set_option maxRecDepth 100000 in
set_option maxHeartbeats 2000000 in
theorem insI_none (w : World) : Calls Tryz.prog 185 #[.slice none 0 0, .int .i64 0, .int .i64 0] w fun e w' => e = .returned (.tuple #[]) ∧ w = w' := by
  go_enter Tryz.func185, Tryz.ntmps185
  go_wp2_with fail
  go_loop [6] (fun i => i = .int .i64 1) (fun _ => 0)
  case atStart => exact rfl
  case round =>
    obtain rfl := hrel
    go_wp2_with fail
    go_end0
    exact ⟨rfl, rfl⟩

set_option maxRecDepth 100000 in
set_option maxHeartbeats 2000000 in
theorem pdqI_none (n : Int) (w : World) : Calls Tryz.prog 178 #[.slice none 0 0, .int .i64 0, .int .i64 0, .int .i64 n] w fun e w' => e = .returned (.tuple #[]) ∧ w = w' := by
  have H := Lib.hid (fun w => insI_none w)
  go_enter Tryz.func178, Tryz.ntmps178
  go_wp2_with fail
  go_loop [1, 2] (fun a b => a = .int .i64 0 ∧ b = .int .i64 0) (fun _ _ => 0)
  case atStart => exact ⟨rfl, rfl⟩
  case round =>
    obtain ⟨rfl, rfl⟩ := hrel
    go_wp2_with ((with_reducible refine (H.out _).mono ?_); rintro e w1 ⟨rfl, rfl⟩)
    exact bodyPost_ret (v := .tuple #[]) (by simp [results, Tryz.results178, go_sem]) rfl ⟨rfl, rfl⟩

set_option maxRecDepth 100000 in
set_option maxHeartbeats 2000000 in
theorem bitsLen_zero (w : World) : Calls Tryz.prog 179 #[.int .u64 0] w fun e w' => (∃ n, e = .returned (.int .i64 n)) ∧ w = w' := by
  go_enter Tryz.func179, Tryz.ntmps179
  go_wp2
  go_ret
  exact ⟨⟨_, rfl⟩, rfl⟩

set_option maxRecDepth 100000 in
set_option maxHeartbeats 2000000 in
theorem sortI_none (w : World) : Calls Tryz.prog 153 #[.slice none 0 0] w fun e w' => e = .returned (.tuple #[]) ∧ w = w' := by
  have H := Lib.hid (fun n w => pdqI_none n w)
  have H2 := Lib.hid (fun w => bitsLen_zero w)
  go_enter Tryz.func153, Tryz.ntmps153
  go_wp2_with (first | (go_at_call 179; refine (H2.out _).mono ?_; rintro e w1 ⟨⟨n, rfl⟩, rfl⟩) | (go_at_call 178; refine (H.out _ _).mono ?_; rintro e w1 ⟨rfl, rfl⟩))
  go_end0
  exact ⟨rfl, rfl⟩

/-- What either gives: strictly in order, the numbers of both. -/
def EitherL (xs ys o : List Int) : Prop := o.Pairwise (· < ·) ∧ ∀ x, x ∈ o ↔ x ∈ xs ∨ x ∈ ys

theorem sortI_comp {l : List Int} : (compC 0 (l.mergeSort fun x y => decide (x ≤ y)) l.length).Pairwise (· < ·) ∧ ∀ x, x ∈ compC 0 (l.mergeSort fun x y => decide (x ≤ y)) l.length ↔ x ∈ l := by
  have hp : (l.mergeSort fun x y => decide (x ≤ y)).Perm l := List.mergeSort_perm _ _
  have hs : (l.mergeSort fun x y => decide (x ≤ y)).Pairwise (· ≤ ·) := by
    have := List.pairwise_mergeSort (le := fun x y : Int => decide (x ≤ y)) (fun a b c h1 h2 => by simp at *; omega) (fun a b => by simp; omega) l
    exact this.imp (fun h => by simpa using h)
  have hl := hp.length_eq
  generalize (l.mergeSort fun x y => decide (x ≤ y)) = m at *
  rw [← hl]
  refine ⟨compC_strict (R := (· ≤ ·)) (fun a b h1 h2 => by omega) (fun a b c h1 h2 => by omega) hs (fun a => Int.le_refl a), fun x => ?_⟩
  rw [compC_mem]
  exact hp.mem_iff

set_option maxRecDepth 100000 in
set_option maxHeartbeats 4000000 in
theorem either_any (A1 A2 : Option Addr) (c1 c2 : Nat) (xs ys : List Int) (w : World) (hn : xs.length + ys.length ≤ 1000000) (h1 : Cells w A1 (ints xs)) (h2 : Cells w A2 (ints ys)) :
    Calls Tryz.prog 86 #[.slice A1 xs.length c1, .slice A2 ys.length c2] w fun e w' => ∃ r o, e = .returned r ∧ EitherL xs ys o ∧ w'.ownsRow w.heap.size 3 1 r o.length (ints o) ∧ Below w.heap.size w w' := by
  have hb0 : Below w.heap.size w (w.alloc (.cells #[.slice A1 xs.length c1, .slice A2 ys.length c2] 30)) := (Below.refl _ _).alloc (Nat.le_refl _) _
  have hrow : RVS (w.alloc (.cells #[.slice A1 xs.length c1, .slice A2 ys.length c2] 30)) (.slice (some ⟨w.heap.size, 0, none⟩) 2 2) [ints xs, ints ys] := by
    refine ⟨_, _, [.slice A1 xs.length c1, .slice A2 ys.length c2], rfl, rfl, fun j u hj => ⟨w.heap.size, 0, rfl, ?_⟩, fun i u zs hu hz => ?_⟩
    · rw [Nat.zero_add, cell_of_row _ _ _ _ _ _ (heap_alloc_new _ _)]
      simpa using hj
    · match i, hu, hz with
      | 0, hu, hz => simp at hu hz; subst hu; subst hz; exact ⟨A1, c1, by simp [ints], h1.below hb0⟩
      | 1, hu, hz => simp at hu hz; subst hu; subst hz; exact ⟨A2, c2, by simp [ints], h2.below hb0⟩
      | k + 2, hu, _ => simp at hu
  have hfl : ([ints xs, ints ys] : List (List Value)).flatten = ints (xs ++ ys) := by simp [ints]
  have hlen : (ints (xs ++ ys)).length = (xs ++ ys).length := by simp [ints]
  have HC0 := concatI_any _ [ints xs, ints ys] _ (by simp) (by rw [hfl, hlen, List.length_append]; exact hn) (by rw [hfl]; exact ints_one _) hrow
  rw [hfl, hlen] at HC0
  have HC := Lib.hid HC0
  have HB0 := Lib.hid hb0
  have hxy : (xs ++ ys).length ≤ 1000000 := by rw [List.length_append]; exact hn
  have HM := Lib.hid (show ∀ x, x ∈ xs ++ ys ↔ x ∈ xs ∨ x ∈ ys from fun x => List.mem_append)
  clear hb0 hrow hfl hlen HC0 h1 h2
  generalize xs ++ ys = zs at *
  go_enter Tryz.func86, Tryz.ntmps86
  go_wp2_with fail
  refine HC.out.mono ?_
  rintro e w1 ⟨r, rfl, hr, hb1⟩
  have hb1' : Below w.heap.size w w1 := HB0.out.trans (hb1.mono HB0.out.size)
  have hr' := owns_mono hr HB0.out.size
  have hs1 := hb1'.size
  obtain ⟨hcs, hcm⟩ := sortI_comp (l := zs)
  have HCS := Lib.hid hcs
  have HCM := Lib.hid hcm
  have HB1 := Lib.hid hb1'
  clear hr hb1 hb1' hcs hcm
  rcases hr'.2 with ⟨rfl, h0⟩ | ⟨g, cap, cur, rfl, hg0, _⟩
  · have hz : zs = [] := List.eq_nil_of_length_eq_zero h0
    subst hz
    have HCN : Calls Tryz.prog 154 #[.slice none 0 0] w1 fun e w' => e = .returned (.slice none 0 0) ∧ w' = w1 := by
      clear HC HB0 HB1 hr' HCS HCM HM
      go_enter Tryz.func154, Tryz.ntmps154
      go_wp2_with fail
      go_ret
      exact ⟨rfl, rfl⟩
    have HCN := Lib.hid HCN
    have HS := Lib.hid (sortI_none w1)
    clear hr' h0
    go_wp2_with fail
    refine HS.out.mono ?_
    rintro e w2 ⟨rfl, rfl⟩
    go_wp2_with fail
    refine HCN.out.mono ?_
    rintro e w3 ⟨rfl, rfl⟩
    go_wp2_with fail
    go_ret
    exact ⟨_, [], rfl, ⟨List.Pairwise.nil, fun x => (HM.out x)⟩, World.ownsRow_nil _ _ _ _, HB1.out⟩
  · have HS := Lib.hid (sortI_any g cap zs w.heap.size w1 (by omega) hr')
    clear hr'
    go_wp2_with fail
    refine HS.out.mono ?_
    rintro e w2 ⟨rfl, ho2, hg2⟩
    have hlm : (zs.mergeSort fun x y => decide (x ≤ y)).length = zs.length := List.length_mergeSort _
    have HK := compactI_any g cap w.heap.size (zs.mergeSort fun x y => decide (x ≤ y)) w2 (by omega) (by rw [hlm]; exact ho2)
    rw [hlm] at HK
    have HK := Lib.hid HK
    have HB2 := Lib.hid (HB1.out.grown hg2 hs1 (fun q hq => by cases hq; exact hg0))
    have hs2 := HB2.out.size
    clear ho2 hg2 hlm
    go_wp2_with fail
    refine HK.out.mono ?_
    rintro e w3 ⟨rfl, ho3, hg3⟩
    have HO := Lib.hid ho3
    have HB3 := Lib.hid (HB2.out.grown hg3 hs2 (fun q hq => by cases hq; exact hg0))
    clear ho3 hg3
    generalize compC 0 (zs.mergeSort fun x y => decide (x ≤ y)) zs.length = o at *
    go_wp2_with fail
    go_ret
    exact ⟨_, o, rfl, ⟨HCS.out, fun x => (HCM.out x).trans (HM.out x)⟩, HO.out, HB3.out⟩

end Go.Proofs.YtdgnhfhaaghoaaaGreatDoor
