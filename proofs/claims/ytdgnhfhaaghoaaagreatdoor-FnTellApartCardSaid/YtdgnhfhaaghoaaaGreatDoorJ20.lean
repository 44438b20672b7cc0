/- Labelled systems: the formula that tells two states apart. Plain law: the program's way and the reference's way give the same formula, or none. slices.Compact at numbers: library walked. slices.Grow of nil and slices.Concat at []int: library walked. Labelled systems: silent ways. Plain law: the reference's tables and the program's searches tell the same ways, and the same saturated system. Labelled systems: the saturated system, and the quotient. Plain law: program and reference list the same. Numbers sorted: slices.Sort; either walked. Systems: the program's states in which ways from a state end, walked (of a system, its states' number and its steps alone). -/
import Derived.Test.YtdgnhfhaaghoaaaGreatDoorJ4
import Derived.Test.YtdgnhfhaaghoaaaGreatDoorProg
import Derived.Test.YtdgnhfhaaghoaaaGreatDoorJ15
import Derived.Test.YtdgnhfhaaghoaaaGreatDoorJ8
import Derived.Test.YtdgnhfhaaghoaaaGreatDoorJ6
import Derived.Lib.SliceRun
import Derived.Deep.QuietTactic
import Derived.BigQuiet
import Derived.Lib.AppendZeros
import Derived.Test.YtdgnhfhaaghoaaaGreatDoorJ14
import Derived.Sort.OwnSortedInts
set_option linter.unusedSimpArgs false
set_option linter.unusedVariables false
namespace Go.Proofs.YtdgnhfhaaghoaaaGreatDoor

def hasM (l : List Int) (m : Nat) : Bool := l.contains (m : Int)
def diffM (a b : List Int) : Option Nat := (List.range 8).find? fun m => hasM a m != hasM b m
def markF (a b : List Int) : List Int := match diffM a b with
  | some m => if hasM a m then [1, (m : Int)] else [2, 1, (m : Int)]
  | none => []
def chkF (f : List Int) : Option (List Int) := if f.length ≤ 200 then some f else none
/-- The round in which two states come apart. -/
def roundOf (l : Lab) (s t : Nat) : Option Nat := (List.range (l.shows.length + 1)).find? fun m => (partsL l m).getD s 0 != (partsL l m).getD t 0
/-- The first step of a state that none of another one answers. -/
def lonelyB (ss : List I3) (parts : List Int) (s t : Nat) (x : I3) : Bool := (x.1 == (s : Int)) && !((setOf ss parts (t : Int) x.2.1).contains (atP parts x.2.2))
def lonely (ss : List I3) (parts : List Int) (s t : Nat) : Option I3 := ss.find? (lonelyB ss parts s t)

/-- The conjunction: as the reference makes it of formulas, and as the program gathers it. -/
def allS : List (List Int) → List Int
  | [] => [0]
  | [a] => a
  | a :: b :: r => 3 :: (a ++ allS (b :: r))
def mapO (ap : Int → Option (List Int)) : List Int → Option (List (List Int))
  | [] => some []
  | o :: os => match ap o with
    | none => none
    | some a => match mapO ap os with
      | none => none
      | some r => some (a :: r)
def allP (ap : Int → Option (List Int)) : List Int → Option (List Int)
  | [] => some [0]
  | [o] => ap o
  | o :: p :: os => match ap o with
    | none => none
    | some a => match allP ap (p :: os) with
      | none => none
      | some r => chkF (3 :: (a ++ r))

theorem mapO_len {ap : Int → Option (List Int)} : ∀ {os : List Int} {r : List (List Int)}, mapO ap os = some r → r.length = os.length
  | [], r, h => by simp [mapO] at h; simp [← h]
  | o :: os, r, h => by
    rw [mapO] at h
    split at h
    · cases h
    · split at h
      · cases h
      · rename_i hr
        injection h with h
        rw [← h, List.length_cons, List.length_cons, mapO_len hr]
theorem all_same (ap : Int → Option (List Int)) : ∀ os : List Int, (mapO ap os = none ∧ allP ap os = none) ∨ ∃ r, mapO ap os = some r ∧ (allP ap os = some (allS r) ∨ (allP ap os = none ∧ 200 < (allS r).length))
  | [] => .inr ⟨[], rfl, .inl rfl⟩
  | [o] => by
    cases h : ap o with
    | none => left; simp [mapO, allP, h]
    | some a => right; exact ⟨[a], by simp [mapO, h], .inl (by simp [allP, allS, h])⟩
  | o :: p :: os => by
    have ih := all_same ap (p :: os)
    cases h : ap o with
    | none => left; rw [mapO, allP, h]; exact ⟨rfl, rfl⟩
    | some a =>
      rcases ih with ⟨h1, h2⟩ | ⟨r, h1, h2⟩
      · left; rw [mapO, allP, h, h1, h2]; exact ⟨rfl, rfl⟩
      · right
        refine ⟨a :: r, by rw [mapO, h, h1], ?_⟩
        have hl := mapO_len h1
        cases r with
        | nil => simp at hl
        | cons b r =>
          rw [allP, h]
          rcases h2 with h2 | ⟨h2, h3⟩
          · rw [h2]
            show chkF (3 :: (a ++ allS (b :: r))) = some (3 :: (a ++ allS (b :: r))) ∨ (chkF (3 :: (a ++ allS (b :: r))) = none ∧ 200 < (allS (a :: b :: r)).length)
            unfold chkF
            split
            · exact .inl rfl
            · rename_i hn
              refine .inr ⟨rfl, ?_⟩
              show 200 < (3 :: (a ++ allS (b :: r))).length
              omega
          · rw [h2]
            refine .inr ⟨rfl, ?_⟩
            show 200 < (3 :: (a ++ allS (b :: r))).length
            rw [List.length_cons, List.length_append]
            omega

def apart (l : Lab) : Nat → Nat → Nat → Option (List Int)
  | 0, _, _ => none
  | f + 1, s, t => match roundOf l s t with
    | none => none
    | some 0 => some (markF (l.shows.getD s []) (l.shows.getD t []))
    | some (m + 1) => match lonely l.steps (partsL l m) s t with
      | none => (apart l f t s).bind fun g => chkF (2 :: g)
      | some x => (allP (fun o => apart l f x.2.2.toNat o.toNat) (nextA l.steps (t : Int) x.2.1)).bind fun g => chkF (4 :: x.2.1 :: g)
/-- The reference's end of a step: all formulas, then their conjunction. -/
theorem spec_can (ap : Int → Option (List Int)) (a : Int) (os : List Int) : (allP ap os).bind (fun g => chkF (4 :: a :: g)) = (mapO ap os).bind (fun r => chkF (4 :: a :: allS r)) := by
  rcases all_same ap os with ⟨h1, h2⟩ | ⟨r, h1, h2 | ⟨h2, h3⟩⟩
  · rw [h1, h2]; rfl
  · rw [h1, h2]; rfl
  · rw [h1, h2]
    show none = chkF (4 :: a :: allS r)
    unfold chkF
    rw [if_neg (by simp; omega)]

theorem find_range {n : Nat} {p : Nat → Bool} {k : Nat} (h : (List.range n).find? p = some k) : k < n ∧ p k = true ∧ ∀ j, j < k → p j = false := by
  rw [List.find?_range_eq_some] at h
  exact ⟨List.mem_range.1 h.2.1, h.1, fun j hj => by simpa using h.2.2 j hj⟩

section
variable {l : Lab} {s t : Nat}
theorem round_some {m : Nat} (h : roundOf l s t = some m) : (partsL l m).getD s 0 ≠ (partsL l m).getD t 0 ∧ (∀ j, j < m → (partsL l j).getD s 0 = (partsL l j).getD t 0) ∧ m ≤ l.shows.length := by
  obtain ⟨h1, h2, h3⟩ := find_range h
  exact ⟨by simpa using h2, fun j hj => by simpa using h3 j hj, by omega⟩
theorem round_of_ne (k : Nat) (hk : k ≤ l.shows.length) (h : (partsL l k).getD s 0 ≠ (partsL l k).getD t 0) : ∃ m, roundOf l s t = some m ∧ m ≤ k := by
  cases hr : roundOf l s t with
  | none =>
    unfold roundOf at hr
    rw [List.find?_eq_none] at hr
    have := hr k (List.mem_range.2 (by omega))
    simp at this
    exact absurd this h
  | some m =>
    obtain ⟨_, h2, _⟩ := round_some hr
    refine ⟨m, rfl, ?_⟩
    rcases Nat.lt_or_ge k m with h3 | h3
    · exact absurd (h2 k h3) h
    · exact h3
theorem round_symm : roundOf l s t = roundOf l t s := by
  unfold roundOf
  congr 1
  funext m
  rw [Bool.eq_iff_iff]
  simp only [bne_iff_ne, ne_eq]
  exact ⟨fun h e => h e.symm, fun h e => h e.symm⟩
theorem lonely_none {ss : List I3} {parts : List Int} : lonely ss parts s t = none ↔ nextB ss parts s t = true := by
  unfold lonely
  rw [List.find?_eq_none, nextB_iff]
  constructor
  · intro h x hx e
    have := h x hx
    unfold lonelyB at this
    simp only [Bool.and_eq_true, beq_iff_eq, Bool.not_eq_true', not_and, Bool.not_eq_false] at this
    have := this e
    rw [List.contains_iff_mem] at this
    obtain ⟨u, hu, h1, h2, h3⟩ := setOf_mem.1 this
    exact ⟨u, hu, h1, h2, h3⟩
  · intro h x hx
    unfold lonelyB
    simp only [Bool.and_eq_true, beq_iff_eq, Bool.not_eq_true', not_and, Bool.not_eq_false]
    intro e
    obtain ⟨u, hu, h1, h2, h3⟩ := h x hx e
    rw [List.contains_iff_mem]
    exact setOf_mem.2 ⟨u, hu, h1, h2, h3⟩
theorem lonely_some {ss : List I3} {parts : List Int} {x : I3} (h : lonely ss parts s t = some x) : x ∈ ss ∧ x.1 = (s : Int) ∧ ∀ o ∈ nextA ss (t : Int) x.2.1, atP parts o ≠ atP parts x.2.2 := by
  unfold lonely at h
  have h1 := List.mem_of_find?_eq_some h
  have h2 := List.find?_some h
  unfold lonelyB at h2
  simp only [Bool.and_eq_true, beq_iff_eq, Bool.not_eq_true'] at h2
  refine ⟨h1, h2.1, fun o ho e => ?_⟩
  have : atP parts x.2.2 ∈ setOf ss parts (t : Int) x.2.1 := by
    rw [setOf_mem]
    unfold nextA at ho
    obtain ⟨u, hu, rfl⟩ := List.mem_map.1 ho
    rw [List.mem_filter] at hu
    simp only [Bool.and_eq_true, beq_iff_eq] at hu
    exact ⟨u, hu.1, hu.2.1, hu.2.2, e⟩
  rw [← List.contains_iff_mem, h2.2] at this
  cases this
/-- Where one of two states has no lonely step, the other one has. -/
theorem lonely_other {m : Nat} (hs : s < l.shows.length) (ht : t < l.shows.length) (h : roundOf l s t = some (m + 1)) (hn : lonely l.steps (partsL l m) s t = none) : ∃ x, lonely l.steps (partsL l m) t s = some x := by
  obtain ⟨h1, h2, _⟩ := round_some h
  cases hx : lonely l.steps (partsL l m) t s with
  | some x => exact ⟨x, rfl⟩
  | none =>
    exfalso
    apply h1
    rw [parts_iff l (m + 1) hs ht]
    exact sigB_iff.2 ⟨h2 m (by omega), lonely_none.1 hn, lonely_none.1 hx⟩

/-- How many steps the recursion has left. -/
def leftA (l : Lab) (s t : Nat) : Nat := match roundOf l s t with
  | none => 0
  | some 0 => 0
  | some (m + 1) => 2 * (m + 1) + if (lonely l.steps (partsL l m) s t).isNone then 1 else 0
theorem left_flip {m : Nat} (hs : s < l.shows.length) (ht : t < l.shows.length) (h : roundOf l s t = some (m + 1)) (hn : lonely l.steps (partsL l m) s t = none) : leftA l t s < leftA l s t := by
  obtain ⟨x, hx⟩ := lonely_other hs ht h hn
  unfold leftA
  rw [round_symm (s := t) (t := s), h]
  simp [hn, hx]
theorem left_le {k : Nat} (h : ∃ m, roundOf l s t = some m ∧ m ≤ k) : leftA l s t ≤ 2 * k + 1 := by
  obtain ⟨m, h1, h2⟩ := h
  unfold leftA
  rw [h1]
  cases m with
  | zero => dsimp only; omega
  | succ m => dsimp only; split <;> omega
theorem left_step {m : Nat} {x : I3} {o : Int} {a b : Nat} (h : roundOf l s t = some (m + 1)) (hx : lonely l.steps (partsL l m) s t = some x) (ho : o ∈ nextA l.steps (t : Int) x.2.1) (ha : x.2.2 = (a : Int)) (hb : o = (b : Int)) :
    leftA l a b < leftA l s t ∧ ∃ k, roundOf l a b = some k := by
  obtain ⟨_, _, hm⟩ := round_some h
  obtain ⟨_, _, h3⟩ := lonely_some hx
  have h4 := h3 o ho
  rw [ha, hb] at h4
  unfold atP at h4
  rw [Int.toNat_natCast, Int.toNat_natCast] at h4
  have h5 := round_of_ne (l := l) (s := a) (t := b) m (by omega) (fun e => h4 e.symm)
  refine ⟨?_, by obtain ⟨k, hk, _⟩ := h5; exact ⟨k, hk⟩⟩
  have h6 := left_le h5
  have h7 : leftA l s t = 2 * (m + 1) := by
    unfold leftA
    rw [h]
    simp [hx]
  omega
end

theorem diff_at {a b : List Int} {m : Nat} (h : diffM a b = some m) : m < 8 ∧ (hasM a m != hasM b m) = true ∧ ∀ j, j < m → (hasM a j != hasM b j) = false := by
  unfold diffM at h
  exact find_range h

end Go.Proofs.YtdgnhfhaaghoaaaGreatDoor

set_option linter.unusedVariables false
namespace Go.Proofs.YtdgnhfhaaghoaaaGreatDoor
open Go.RowKit

end Go.Proofs.YtdgnhfhaaghoaaaGreatDoor

set_option linter.unusedVariables false
namespace Go.Proofs.YtdgnhfhaaghoaaaGreatDoor
open Go.RowKit

/-- A slice of slices of one-cell elements, as read. -/
def RVS (w : World) (v : Value) (yss : List (List Value)) : Prop :=
  ∃ A c vs, v = .slice A yss.length c ∧ vs.length = yss.length ∧ Cells w A vs ∧ ∀ (i : Nat) u ys, vs[i]? = some u → yss[i]? = some ys → ∃ A1 c1, u = .slice A1 ys.length c1 ∧ Cells w A1 ys

theorem RVS.below {w w' : World} {v : Value} {yss : List (List Value)} (h : RVS w v yss) (hb : Below w.heap.size w w') : RVS w' v yss := by
  obtain ⟨A, c, vs, e, hl, hc, hi⟩ := h
  refine ⟨A, c, vs, e, hl, hc.below hb, fun i u ys h1 h2 => ?_⟩
  obtain ⟨A1, c1, e1, h3⟩ := hi i u ys h1 h2
  exact ⟨A1, c1, e1, h3.below hb⟩

/-- The cells of the first k slices. -/
def flatTo (yss : List (List Value)) (k : Nat) : List Value := (yss.take k).flatten
theorem flatTo_zero (yss : List (List Value)) : flatTo yss 0 = [] := by simp [flatTo]
theorem flatTo_all (yss : List (List Value)) : flatTo yss yss.length = yss.flatten := by simp [flatTo]
theorem flatTo_next {yss : List (List Value)} {k : Nat} (h : k < yss.length) : flatTo yss (k + 1) = flatTo yss k ++ yss[k] := by
  unfold flatTo
  rw [List.take_succ_eq_append_getElem h, List.flatten_append]
  simp
theorem flatTo_le {yss : List (List Value)} {k : Nat} : (flatTo yss k).length ≤ yss.flatten.length := by
  have := congrArg List.length (congrArg List.flatten (List.take_append_drop k yss))
  rw [List.flatten_append, List.length_append] at this
  unfold flatTo
  omega
theorem owns_prefix {w : World} {B g : Nat} {e : TypeId} {Z : Array Value} {cap : Nat} (hg : w.heap[g]? = some (.cells Z e)) (hB : B ≤ g) (hZ : Z.size = cap) (hm : cap ≤ maxLen) : w.ownsRow B e 1 (.slice (some ⟨g, 0, none⟩) 0 cap) 0 [] :=
  ⟨rfl, .inr ⟨g, cap, Z, rfl, hB, hg, Nat.zero_le _, hm, by rw [hZ, Nat.mul_one], by simp⟩⟩

theorem info_gI : (Tryz.prog.info? 3).map (fun i => (i.zero, i.size, i.bytes)) = some (some (Value.int .i64 0), 1, 8) := by kernel_rfl

set_option maxRecDepth 100000 in
set_option maxHeartbeats 4000000 in
theorem growI_any (n : Nat) (w : World) (h : n ≤ 1000000) :
    Calls Tryz.prog 177 #[.slice none 0 0, .int .i64 n] w fun e w' => ∃ v, e = .returned v ∧ w'.ownsRow w.heap.size 3 1 v 0 [] ∧ Below w.heap.size w w' := by
  obtain ⟨i0, hi, hz0, hz1, hz2⟩ := info_parts info_gI
  by_cases hn : n = 0
  · subst hn
    go_enter Tryz.func177, Tryz.ntmps177
    go_wp2_with fail
    go_ret
    exact ⟨_, rfl, World.ownsRow_nil _ _ _ _, Below.refl _ _⟩
  have happ := Lib.run_append_nil_zeros (P := Tryz.prog) w 30 3 30 3 i0 (Value.int .i64 0) .i64 .i64 Tryz.underlying30 Tryz.underlying3 hi hz0 n (by omega) (by omega) (by omega) (by rw [hz2]; omega)
  have hcap1 := grownCap_ge w n 0 3
  have hcap2 := grownCap_le_maxLen w n 0 3 (by unfold maxLen; omega)
  generalize grownCap w n 0 3 = cap at *
  generalize hZ : (Builtin.zeroCells (Value.int .i64 0).cells n ++ Builtin.zeroCells (Value.int .i64 0).cells (cap - n)) = Z at happ
  have hZs : Z.size = cap := by rw [← hZ]; simp [size_zeroCells, Value.cells]; omega
  have hrow := owns_prefix (heap_alloc_new w.drew (.cells Z 3)) (B := w.heap.size) (Nat.le_refl _) hZs hcap2
  have HR := Lib.hid (show ((w.alloc (.cells Z 3)).drew).ownsRow w.heap.size 3 1 (.slice (some ⟨w.heap.size, 0, none⟩) 0 cap) 0 [] from hrow)
  have HB := Lib.hid (show Below w.heap.size w (w.alloc (.cells Z 3)).drew from (Below.refl _ w).drew.alloc (Nat.le_refl _) _)
  have hc0 : (0 : Int) ≤ (cap : Int) := by omega
  clear hZ hrow
  go_enter Tryz.func177, Tryz.ntmps177
  go_wp2_with (at_builtin; refine Lib.wpList_append_run _ rfl _ _ _ _ rfl _ _ rfl rfl _ _ happ ?_)
  go_ret
  exact ⟨_, rfl, HR.out, HB.out⟩

set_option maxRecDepth 100000 in
set_option maxHeartbeats 8000000 in
theorem concatI_any (v : Value) (yss : List (List Value)) (w : World) (hn : yss.length ≤ 1000) (hs : yss.flatten.length ≤ 1000000) (h1 : ∀ u ∈ yss.flatten, u.oneCell' = true) (hv : RVS w v yss) :
    Calls Tryz.prog 152 #[v] w fun e w' => ∃ r, e = .returned r ∧ w'.ownsRow w.heap.size 3 1 r yss.flatten.length yss.flatten ∧ Below w.heap.size w w' := by
  obtain ⟨i0, hi, hz0, hz1, hz2⟩ := info_parts info_gI
  have HV := Lib.hid (show ∀ W, Below w.heap.size w W → RVS W v yss from fun W hb => hv.below hb)
  have H1 := Lib.hid h1
  obtain ⟨A, c, vs, rfl, hvl, hc, hrow⟩ := hv
  clear h1
  go_enter Tryz.func152, Tryz.ntmps152
  go_wp2_with fail
  go_loop [3, 11] (fun z i => ∃ k : Nat, k ≤ yss.length ∧ i = .int .i64 k ∧ z = .int .i64 (flatTo yss k).length) (fun _ i => yss.length - (intOf i).toNat)
  case atStart => exact ⟨0, Nat.zero_le _, rfl, by rw [flatTo_zero]; rfl⟩
  case round =>
    obtain ⟨k, hk, rfl, rfl⟩ := hrel
    have hle := flatTo_le (yss := yss) (k := k)
    by_cases hlt : k < yss.length
    · have hku : k < vs.length := by omega
      obtain ⟨b, o, rfl, hcc⟩ := hc.at_ hku
      have hck := hcc k _ (List.getElem?_eq_getElem hku)
      obtain ⟨A1, c1, e1, _⟩ := hrow k _ _ (List.getElem?_eq_getElem hku) (List.getElem?_eq_getElem hlt)
      rw [e1] at hck
      have hnx := congrArg List.length (flatTo_next hlt)
      rw [List.length_append] at hnx
      have hle2 := flatTo_le (yss := yss) (k := k + 1)
      have HNX := Lib.hid hnx
      have hl2 : (flatTo yss k).length + yss[k].length ≤ 1000000 := by omega
      clear hcc hrow hc HV H1 hnx hle2 e1
      generalize yss[k].length = q at *
      generalize (flatTo yss k).length = p at *
      have hp : ¬ ((p : Int) + (q : Int) < 0) := by omega
      go_wp2_with fail
      go_round
      case rel => exact ⟨k + 1, by omega, by go_num, by rw [HNX.out]; go_num⟩
      case measure => simp [intOf]; omega
    · obtain rfl : k = yss.length := by omega
      rw [flatTo_all]
      have HGR := Lib.hid (growI_any yss.flatten.length w hs)
      have HLE := Lib.hid (fun k => flatTo_le (yss := yss) (k := k))
      clear hc hrow hle
      generalize hFL : yss.flatten.length = FL at *
      have HFL := Lib.hid hFL
      clear hFL
      go_wp2_with fail
      refine HGR.out.mono ?_
      rintro e w1 ⟨u, rfl, hu, hb1⟩
      have HU := Lib.hid hu
      have HB1 := Lib.hid hb1
      clear hu hb1
      go_wp2_with fail
      go_loopw [6, 27] (fun u i wr => ∃ k : Nat, k ≤ yss.length ∧ i = .int .i64 k ∧ wr.ownsRow w.heap.size 3 1 u (flatTo yss k).length (flatTo yss k) ∧ Below w.heap.size w wr)
        (fun _ i _ => yss.length - (intOf i).toNat)
      case atStart => exact ⟨0, Nat.zero_le _, rfl, by rw [flatTo_zero]; exact HU.out, HB1.out⟩
      case round =>
        clear HU HB1
        obtain ⟨k, hk, rfl, hown, hbel⟩ := hrel
        obtain ⟨AU, cU, rfl, hown⟩ := owns_form hown
        have hle := HLE.out k
        by_cases hlt : k < yss.length
        · obtain ⟨A', c', vs', e, hvl', hcB, hrow⟩ := HV.out wr hbel
          cases e
          obtain ⟨b, o, rfl, hcb⟩ := hcB.at_ (k := k) (by omega)
          have hck := hcb k _ (List.getElem?_eq_getElem (by omega))
          obtain ⟨A3, c3, e3, hc3⟩ := hrow k _ _ (List.getElem?_eq_getElem (by omega)) (List.getElem?_eq_getElem hlt)
          rw [e3] at hck
          have hnx := flatTo_next hlt
          have hone : ∀ u ∈ yss[k], u.oneCell' = true := fun u hu => H1.out u (List.mem_flatten.2 ⟨_, List.getElem_mem hlt, hu⟩)
          have hle2 := HLE.out (k + 1)
          rw [hnx, List.length_append] at hle2
          have HNX := Lib.hid hnx
          have HO := Lib.hid hown
          have HB := Lib.hid hbel
          have HC3 := Lib.hid hc3
          have HONE := Lib.hid hone
          have hl2 : (flatTo yss k).length + yss[k].length ≤ 1000000 := by omega
          clear hcB hcb hrow e3 hc3 hnx hown hbel hone hle2 hle
          generalize yss[k] = ys at *
          generalize flatTo yss k = fk at *
          cases A3 with
          | none =>
            have h0 : ys = [] := cells_none HC3.out
            subst h0
            go_wp2_with (at_builtin; refine wpList_append_none_cap rfl _ _ 30 rfl w.heap.size 3 i0 1 Tryz.underlying30 hi _ _ _ _ rfl HO.out rfl ?_)
            go_roundw
            case rel => exact ⟨k + 1, by omega, by go_num, by rw [HNX.out, List.append_nil]; exact HO.out, HB.out⟩
            case measure => simp [intOf]; omega
          | some ad =>
            go_wp2_with (at_builtin; refine wpList_append_own _ rfl _ _ 30 rfl w.heap.size 3 i0 (Value.int .i64 0) 1 8 Tryz.underlying30 hi hz0 hz1 hz2 rfl (by decide) _ _ _ rfl HO.out ad ys.length c3 ys rfl (by simp) (cells_add HC3.out) HONE.out (by unfold maxLen; omega) (by omega) HB.out.size ?_; intro v2 w2 hown2 hgrow2 _)
            rw [← List.length_append, ← HNX.out] at hown2
            have HO2 := Lib.hid hown2
            have HG := Lib.hid (HB.out.grown hgrow2 HB.out.size (fun q hq => (HO.out.lt q hq).1))
            clear hown2 hgrow2
            go_wp2_with fail
            go_roundw
            case rel => exact ⟨k + 1, by omega, by go_num, HO2.out, HG.out⟩
            case measure => simp [intOf]; omega
        · obtain rfl : k = yss.length := by omega
          have HO := Lib.hid hown
          have HB := Lib.hid hbel
          clear hown hbel
          go_wp2_with fail
          go_ret
          refine ⟨_, rfl, ?_, HB.out⟩
          rw [show yss.flatten = flatTo yss yss.length from (flatTo_all yss).symm]
          exact HO.out

end Go.Proofs.YtdgnhfhaaghoaaaGreatDoor

set_option linter.unusedVariables false
namespace Go.Proofs.YtdgnhfhaaghoaaaGreatDoor

section
variable {n : Nat} {ss : List I3}
end

end Go.Proofs.YtdgnhfhaaghoaaaGreatDoor

set_option linter.unusedVariables false
namespace Go.Proofs.YtdgnhfhaaghoaaaGreatDoor

/-! The quotient. -/

end Go.Proofs.YtdgnhfhaaghoaaaGreatDoor

set_option linter.unusedVariables false
namespace Go.Proofs.YtdgnhfhaaghoaaaGreatDoor
open Go.RowKit
open Go.Sort (grow)

end Go.Proofs.YtdgnhfhaaghoaaaGreatDoor

set_option linter.unusedVariables false
namespace Go.Proofs.YtdgnhfhaaghoaaaGreatDoor
open Go.RowKit

theorem contains_q (A : Option Addr) (c : Nat) (xs : List Int) (d : Int) (w : World) (hn : xs.length ≤ 16777216) (hA : Cells w A (ints xs)) :
    Calls Tryz.prog 139 #[.slice A xs.length c, .int .i64 d] w fun e w' => e = .returned (.bool (hasI xs d)) ∧ w' = w :=
  (contains_any A c xs d w hn hA).mono fun _ _ ⟨a, b⟩ => ⟨a, b.symm⟩
theorem hbel2 {B g : Nat} {a w w' : World} (hb : Below B a w) (hg : w.grownBy w' (some g)) (h : B ≤ g) (hB : B ≤ w.heap.size) : Below B a w' :=
  hb.grown hg hB (fun q hq => by cases hq; exact h)

end Go.Proofs.YtdgnhfhaaghoaaaGreatDoor
