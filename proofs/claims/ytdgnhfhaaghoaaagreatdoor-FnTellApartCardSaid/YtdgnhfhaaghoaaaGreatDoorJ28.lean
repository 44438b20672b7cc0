/- Tables of truth values: read, written; l11Table walked. Labelled systems: whether each step of a state is answered by another one: the reference walked. slices.Min, slices.IndexFunc and slices.ContainsFunc over ints: library walked, for a closure that is known by its contract. Whether all elements of a list are in another one: program and reference walked. Labelled systems: which states are simulated by which: the reference walked. Labelled systems: whether a number is a state, and IsSimulated of the reference: walked. -/
import Derived.Test.YtdgnhfhaaghoaaaGreatDoorProg
import Derived.Test.YtdgnhfhaaghoaaaGreatDoorJ7
import Derived.Test.YtdgnhfhaaghoaaaGreatDoorJ8
import Derived.Test.YtdgnhfhaaghoaaaGreatDoorJ13
import Derived.Lib.QuietBelow
import Derived.Deep.QuietTactic
import Derived.BigQuiet
import Derived.Deep.RegionHeld3
import Derived.Test.YtdgnhfhaaghoaaaGreatDoorJ6
import Derived.Test.YtdgnhfhaaghoaaaGreatDoorJ2
import Derived.Test.YtdgnhfhaaghoaaaGreatDoorJ19
import Derived.Test.YtdgnhfhaaghoaaaGreatDoorJ4
set_option linter.unusedSimpArgs false
set_option linter.unusedVariables false
namespace Go.Proofs.YtdgnhfhaaghoaaaGreatDoor
open Go.RowKit

def offs (n : Nat) : List Value := List.replicate n (.bool false)
/-- A table that is being laid: k rows of n times no. -/
def TB0 (w : World) (B : Nat) (u : Value) (k n : Nat) : Prop :=
  ∃ vs : List Value, w.ownsRow B 79 1 u k vs ∧ (∀ (i : Nat) v, vs[i]? = some v → w.ownsRow B 4 1 v n (offs n)) ∧
    (∀ (i j : Nat) v v' b, i < j → vs[i]? = some v → vs[j]? = some v' → v.ownBlock = some b → v'.ownBlock ≠ some b)

theorem TB0.push {w w1 w2 : World} {B k n : Nat} {u u2 r : Value} {vs : List Value} {o : Obj}
    (h1 : w.ownsRow B 79 1 u k vs) (h2 : ∀ (i : Nat) v, vs[i]? = some v → w.ownsRow B 4 1 v n (offs n))
    (h3 : ∀ (i j : Nat) v v' b, i < j → vs[i]? = some v → vs[j]? = some v' → v.ownBlock = some b → v'.ownBlock ≠ some b)
    (hB : B ≤ w.heap.size) (hr : w1.ownsRow w.heap.size 4 1 r n (offs n)) (hb : Below w.heap.size w w1)
    (ho : w2.ownsRow B 79 1 u2 (k + 1) (vs ++ [r])) (hg : (w1.alloc o).grownBy w2 u.ownBlock) : TB0 w2 B u2 (k + 1) n := by
  have hu1 : (w1.alloc o).ownsRow B 79 1 u k vs := (owns_below h1 hb (Nat.le_refl _)).alloc _
  refine ⟨vs ++ [r], ho, fun i v hv => ?_, fun i j v v' b hij hv hv' hvb => ?_⟩
  · rcases Nat.lt_trichotomy i vs.length with hi | hi | hi
    · rw [List.getElem?_append_left hi] at hv
      have ha : (w1.alloc o).ownsRow B 4 1 v n (offs n) := (owns_below (h2 i v hv) hb (Nat.le_refl _)).alloc _
      exact owns_grown' ha hg (fun g hgv => owns_apart' ha hu1 (by decide) g hgv)
    · subst hi
      rw [List.getElem?_append_right (Nat.le_refl _), Nat.sub_self] at hv
      simp at hv
      subst hv
      have ha : (w1.alloc o).ownsRow B 4 1 r n (offs n) := (owns_mono hr hB).alloc _
      exact owns_grown' ha hg (fun g hgv => owns_apart' ha hu1 (by decide) g hgv)
    · rw [List.getElem?_eq_none (by simp; omega)] at hv
      cases hv
  · have hj : j ≤ vs.length := by
      have := (List.getElem?_eq_some_iff.1 hv').1
      simp at this
      omega
    rw [List.getElem?_append_left (by omega)] at hv
    rcases Nat.lt_or_eq_of_le hj with hj | hj
    · rw [List.getElem?_append_left hj] at hv'
      exact h3 i j v v' b hij hv hv' hvb
    · subst hj
      rw [List.getElem?_append_right (Nat.le_refl _), Nat.sub_self] at hv'
      simp at hv'
      subst hv'
      have a1 := ((h2 i v hv).lt b hvb).2
      intro e
      have a2 := (hr.lt b e).1
      omega

/-- A table of n times n truth values: the rows' blocks are R, their capacities C. -/
structure TabB (w : World) (B g : Nat) (R C : Nat → Nat) (n : Nat) (f : Nat → Nat → Bool) : Prop where
  outer : ∀ i, i < n → w.cell? ⟨g, i, none⟩ = some (.slice (some ⟨R i, 0, none⟩) n (C i))
  inner : ∀ i j, i < n → j < n → w.cell? ⟨R i, j, none⟩ = some (.bool (f i j)) ∧ w.frozen? ⟨R i, j, none⟩ = false
  lowg : B ≤ g
  low : ∀ i, i < n → B ≤ R i ∧ R i ≠ g
  inj : ∀ i j, i < n → j < n → R i = R j → i = j

def setN (f : Nat → Nat → Bool) (i j : Nat) (b : Bool) : Nat → Nat → Bool := fun x y => if x = i ∧ y = j then b else f x y

section
variable {w w' : World} {B g n : Nat} {R C : Nat → Nat} {f : Nat → Nat → Bool}
theorem TabB.below {B2 : Nat} (h : TabB w B g R C n f) (hb : Below B2 w w') (hB : w.heap.size ≤ B2) : TabB w' B g R C n f := by
  refine ⟨fun i hi => ?_, fun i j hi hj => ?_, h.lowg, h.low, h.inj⟩
  · have := h.outer i hi
    exact cell_below hb this (by have := lt_of_cell this; omega)
  · obtain ⟨h1, h2⟩ := h.inner i j hi hj
    have hl := lt_of_cell h1
    exact ⟨cell_below hb h1 (by omega), (World.frozen?_of_block (a := ⟨R i, j, none⟩) (hb.block _ (by dsimp only at hl ⊢; omega))).trans h2⟩
theorem TabB.set (h : TabB w B g R C n f) {i j : Nat} (hi : i < n) (hj : j < n) (b : Bool) : TabB (w.setCell ⟨R i, j, none⟩ (.bool b)) B g R C n (setN f i j b) := by
  refine ⟨fun x hx => ?_, fun x y hx hy => ?_, h.lowg, h.low, h.inj⟩
  · rw [World.cell?_setCell_other _ _ _ _ (by intro e; simp only [Addr.mk.injEq, and_true] at e; exact (h.low i hi).2 e.1)]
    exact h.outer x hx
  · obtain ⟨h1, h2⟩ := h.inner x y hx hy
    rw [World.frozen?_setCell]
    refine ⟨?_, h2⟩
    unfold setN
    by_cases e : x = i ∧ y = j
    · rw [if_pos e]
      obtain ⟨rfl, rfl⟩ := e
      exact World.cell?_setCell_same w _ _ h1
    · rw [if_neg e, World.cell?_setCell_other _ _ _ _ (by intro e2; simp only [Addr.mk.injEq, and_true] at e2; exact e ⟨(h.inj i x hi hx e2.1).symm, e2.2.symm⟩)]
      exact h1
theorem TabB.mono {B' : Nat} (h : TabB w B g R C n f) (hB : B' ≤ B) : TabB w B' g R C n f :=
  ⟨h.outer, h.inner, Nat.le_trans hB h.lowg, fun i hi => ⟨Nat.le_trans hB (h.low i hi).1, (h.low i hi).2⟩, h.inj⟩
theorem TabB.congr {f' : Nat → Nat → Bool} (h : TabB w B g R C n f) (hf : ∀ i j, i < n → j < n → f i j = f' i j) : TabB w B g R C n f' :=
  ⟨h.outer, fun i j hi hj => by rw [← hf i j hi hj]; exact h.inner i j hi hj, h.lowg, h.low, h.inj⟩
end

end Go.Proofs.YtdgnhfhaaghoaaaGreatDoor

set_option linter.unusedVariables false
namespace Go.Proofs.YtdgnhfhaaghoaaaGreatDoor
open Go.RowKit

end Go.Proofs.YtdgnhfhaaghoaaaGreatDoor

set_option linter.unusedVariables false
namespace Go.Proofs.YtdgnhfhaaghoaaaGreatDoor
open Go.RowKit

set_option maxRecDepth 100000 in
set_option maxHeartbeats 1000000 in
theorem indexFuncI_any (A : Option Addr) (c : Nat) (xs : List Int) (F : FuncId) (cap : Array Value) (p : Nat → Bool) (w : World) (hn : xs.length ≤ 16777216) (hA : Cells w A (ints xs))
    (hF : ∀ (args : Array Value) (w : World), (callFunc F args).run Tryz.prog w = .ok (.enter F args) w)
    (hcall : ∀ (k : Nat) (W : World), k < xs.length → Below w.heap.size w W → Calls Tryz.prog F (#[.int .i64 (xs.getD k 0)] ++ cap) W fun e W' => e = .returned (.bool (p k)) ∧ Below W.heap.size W W') :
    Calls Tryz.prog 173 #[.slice A xs.length c, .func (.func F) #[] cap] w fun e w' => e = .returned (.int .i64 (idxR xs.length p)) ∧ Below w.heap.size w w' := by
  have HC := Lib.hid hcall
  clear hcall
  go_enter Tryz.func173, Tryz.ntmps173
  go_wp2_with fail
  go_loopw [8] (fun i wr => ∃ k : Nat, k ≤ xs.length ∧ i = .int .i64 k ∧ (∀ j, j < k → p j = false) ∧ Below w.heap.size w wr)
    (fun i _ => xs.length - (intOf i).toNat)
  case atStart => exact ⟨0, Nat.zero_le _, rfl, fun j hj => by omega, Below.refl _ _⟩
  case round =>
    obtain ⟨k, hk, rfl, hall, hbel⟩ := hrel
    have HALL := Lib.hid hall
    clear hall
    by_cases hlt : k < xs.length
    · obtain ⟨b, o, rfl, hc⟩ := (hA.below hbel).int hlt
      have hck := hc k hlt
      have H := Lib.hid (HC.out k wr hlt hbel)
      have HB := Lib.hid hbel
      clear hc hA hbel
      generalize xs.getD k 0 = x at *
      cases hp : p k
      · have HN := Lib.hid (none_next HALL.out hp)
        rw [hp] at H
        clear hp
        go_wp2_with ((with_reducible refine H.out.mono ?_); rintro e w1 ⟨rfl, hb1⟩)
        go_roundw
        case rel => exact ⟨k + 1, by omega, by go_num, HN.out, HB.out.trans (hb1.mono HB.out.size)⟩
        case measure => simp [intOf]; omega
      · have HE := Lib.hid (idxR_some hlt HALL.out hp)
        rw [hp] at H
        clear hp
        go_wp2_with ((with_reducible refine H.out.mono ?_); rintro e w1 ⟨rfl, hb1⟩)
        go_ret
        exact ⟨by rw [HE.out]; rfl, HB.out.trans (hb1.mono HB.out.size)⟩
    · obtain rfl : k = xs.length := by omega
      have HE := Lib.hid (idxR_none HALL.out)
      go_wp2
      go_ret
      exact ⟨by rw [HE.out]; rfl, hbel⟩

set_option maxHeartbeats 1000000 in
theorem containsFuncI_any (A : Option Addr) (c : Nat) (xs : List Int) (F : FuncId) (cap : Array Value) (p : Nat → Bool) (w : World) (hn : xs.length ≤ 16777216) (hA : Cells w A (ints xs))
    (hF : ∀ (args : Array Value) (w : World), (callFunc F args).run Tryz.prog w = .ok (.enter F args) w)
    (hcall : ∀ (k : Nat) (W : World), k < xs.length → Below w.heap.size w W → Calls Tryz.prog F (#[.int .i64 (xs.getD k 0)] ++ cap) W fun e W' => e = .returned (.bool (p k)) ∧ Below W.heap.size W W') :
    Calls Tryz.prog 129 #[.slice A xs.length c, .func (.func F) #[] cap] w fun e w' => e = .returned (.bool (anyR xs.length p)) ∧ Below w.heap.size w w' := by
  have H := Lib.hid (indexFuncI_any A c xs F cap p w hn hA hF hcall)
  have HI := Lib.hid (idxR_any xs.length p)
  clear hF hcall hA
  go_enter Tryz.func129, Tryz.ntmps129
  go_wp2_with ((with_reducible refine H.out.mono ?_); rintro e w1 ⟨rfl, hb1⟩)
  go_ret
  exact ⟨by rw [← HI.out]; rfl, hb1⟩

end Go.Proofs.YtdgnhfhaaghoaaaGreatDoor

set_option linter.unusedVariables false
namespace Go.Proofs.YtdgnhfhaaghoaaaGreatDoor
open Go.RowKit

end Go.Proofs.YtdgnhfhaaghoaaaGreatDoor

set_option linter.unusedVariables false
namespace Go.Proofs.YtdgnhfhaaghoaaaGreatDoor
open Go.RowKit

set_option maxRecDepth 100000 in
set_option maxHeartbeats 400000 in
theorem l11State_any (v : Value) (l : Lab) (s : Int) (w : World) (hs : SmallLab l) (hv : RLab w v l) :
    Calls Tryz.prog 57 #[v, .int .i64 s] w fun e w' => e = .returned (.bool (goodLab l && inB s 0 ((l.shows.length : Int) - 1))) ∧ Below w.heap.size w w' := by
  have hb1 : ∀ o, Below w.heap.size w (w.alloc o) := fun o => (Below.refl _ _).alloc (Nat.le_refl _) o
  have H := Lib.hid (fun o => l11Good_any v l (w.alloc o) hs (hv.below (hb1 o)))
  have H2 := Lib.hid (fun n lo hi W => l1In_any n lo hi W)
  obtain ⟨sv, tv, rfl, hsv, htv⟩ := hv
  obtain ⟨A, c, vs, rfl, hm, _, _, _⟩ := hsv
  have hs1 := hs.1
  have HB1 := Lib.hid hb1
  clear hb1 htv
  cases hg : goodLab l
  · rw [hg] at H
    go_enter Tryz.func57, Tryz.ntmps57
    go_wp2_with ((with_reducible refine (H.out _).mono ?_); rintro e w1 ⟨rfl, hw⟩)
    go_ret
    exact ⟨rfl, (HB1.out _).trans (hw.mono (HB1.out _).size)⟩
  · rw [hg] at H
    go_enter Tryz.func57, Tryz.ntmps57
    go_wp2_with fail
    refine (H.out _).mono ?_
    rintro e w1 ⟨rfl, hw⟩
    obtain ⟨bx, _⟩ := one_box hw
    have x0 : w1.cell? ⟨w.heap.size, 0, none⟩ = some (.slice A l.shows.length c) := cell_of_row _ _ _ _ _ _ bx
    have HZ := Lib.hid ((HB1.out _).trans (hw.mono (HB1.out _).size))
    clear bx hw
    go_wp2_with fail
    refine (H2.out _ _ _ _).mono ?_
    rintro e w2 ⟨rfl, rfl⟩
    go_wp2_with fail
    go_ret
    exact ⟨by simp, HZ.out⟩

end Go.Proofs.YtdgnhfhaaghoaaaGreatDoor

set_option linter.unusedVariables false
namespace Go.Proofs.YtdgnhfhaaghoaaaGreatDoor
open Go.RowKit

def stB (l : Lab) (s : Int) : Bool := inB s 0 ((l.shows.length : Int) - 1)
theorem stB_true {l : Lab} {s : Int} (h : stB l s = true) : ∃ i : Nat, s = (i : Int) ∧ i < l.shows.length := by
  have := inB_true h
  exact ⟨s.toNat, by omega, by omega⟩

set_option maxHeartbeats 400000 in
theorem isStateL_any (v : Value) (l : Lab) (s : Int) (w : World) (hs : SmallLab l) (hv : RLab w v l) :
    Calls Tryz.prog 54 #[v, .int .i64 s] w fun e w' => e = .returned (.bool (stB l s)) ∧ Below w.heap.size w w' := by
  have hb1 : ∀ o, Below w.heap.size w (w.alloc o) := fun o => (Below.refl _ _).alloc (Nat.le_refl _) o
  have H2 := Lib.hid (fun n lo hi W => within_any n lo hi W)
  obtain ⟨sv, tv, rfl, hsv, htv⟩ := hv
  obtain ⟨A, c, vs, rfl, hm, _, _, _⟩ := hsv
  have hs1 := hs.1
  have HB1 := Lib.hid hb1
  clear hb1 htv
  go_enter Tryz.func54, Tryz.ntmps54
  go_wp2_with fail
  refine (H2.out _ _ _ _).mono ?_
  rintro e w2 ⟨rfl, rfl⟩
  go_wp2_with fail
  go_ret
  exact ⟨rfl, HB1.out _⟩

def okST (l : Lab) (s t : Int) : Bool := (goodLab l && stB l s) && stB l t
end Go.Proofs.YtdgnhfhaaghoaaaGreatDoor
