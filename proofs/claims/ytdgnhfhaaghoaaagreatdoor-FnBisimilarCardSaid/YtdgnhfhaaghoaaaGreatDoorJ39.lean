/- Pairs of numbers are keys of this program's maps. slices.IndexFunc and slices.ContainsFunc at triples: library walked. Labelled systems: whether each step of a state is followed by one of another state: the program walked. -/
import Derived.Test.YtdgnhfhaaghoaaaGreatDoorProg
import Derived.Test.YtdgnhfhaaghoaaaGreatDoorJ38
import Derived.Test.YtdgnhfhaaghoaaaGreatDoorJ7
import Derived.Test.YtdgnhfhaaghoaaaGreatDoorJ2
import Derived.Test.YtdgnhfhaaghoaaaGreatDoorJ23
import Derived.Test.YtdgnhfhaaghoaaaGreatDoorJ9
set_option linter.unusedSimpArgs false
set_option linter.unusedVariables false
namespace Go.Proofs.YtdgnhfhaaghoaaaGreatDoor
open Go.RowKit Go.ChangeMaps Go.MapKept
open Go.Maps (Keyed)

theorem laidOutM : laidOutB Tryz.prog = true := by kernel_rfl
theorem wf_small {a : Int} (h : InS a) : (Lit.int .i64 a).wf = true := WalkArith.wf_i64 (by unfold InS at h; omega)

set_option maxRecDepth 100000 in
theorem pairKey : PairKey Tryz.prog 66 := by
  refine ⟨Keyed.of_law (deep_law_laid laidOutM (m := 3) (by decide) (by decide +kernel) (by kernel_rfl) (by kernel_rfl)), fun a b ha hb => ?_⟩
  have hc : Tryz.prog.cellsOf 66 = 2 := by kernel_rfl
  have hc1 : Tryz.prog.cellsOf 3 = 1 := by kernel_rfl
  have hk : Tryz.prog.keyType 66 = true := by kernel_rfl
  have hpos : 0 < Tryz.prog.types.size := by decide +kernel
  obtain ⟨m, hm⟩ : ∃ m, Tryz.prog.types.size = m + 1 := ⟨Tryz.prog.types.size - 1, by omega⟩
  have hl : Tryz.prog.keyLits (Tryz.prog.types.size + 1) 66 [.int .i64 a, .int .i64 b] = some [.int .i64 a, .int .i64 b] := by
    rw [hm]
    simp [Program.keyLits, Tryz.underlying66, Tryz.underlying3, hc, hc1, wf_small ha, wf_small hb, List.range_succ]
  refine ⟨.string (keyBytes [.int .i64 a, .int .i64 b]), ?_⟩
  unfold keyOf
  simp only [Tryz.underlying66, hk, KV, Value.formed, hc]
  rw [show (Value.agg #[Value.int .i64 a, Value.int .i64 b]).cells.toList = [.int .i64 a, .int .i64 b] from rfl, hl]
  rfl

end Go.Proofs.YtdgnhfhaaghoaaaGreatDoor

set_option linter.unusedVariables false
namespace Go.Proofs.YtdgnhfhaaghoaaaGreatDoor
open Go.RowKit

set_option maxRecDepth 100000 in
set_option maxHeartbeats 1000000 in
theorem indexFuncT_any (v : Value) (l : List I3) (F : FuncId) (cap : Array Value) (p : Nat → Bool) (w : World) (hn : l.length ≤ 16777216) (hv : RA3 w v l)
    (hF : ∀ (args : Array Value) (w : World), (callFunc F args).run Tryz.prog w = .ok (.enter F args) w)
    (hcall : ∀ (k : Nat) (x : I3) (W : World), l[k]? = some x → Below w.heap.size w W → Calls Tryz.prog F (#[.agg #[.int .i64 x.1, .int .i64 x.2.1, .int .i64 x.2.2]] ++ cap) W fun e W' => e = .returned (.bool (p k)) ∧ Below W.heap.size W W') :
    Calls Tryz.prog 183 #[v, .func (.func F) #[] cap] w fun e w' => e = .returned (.int .i64 (idxR l.length p)) ∧ Below w.heap.size w w' := by
  have HC := Lib.hid hcall
  have HV := Lib.hid (show ∀ W, Below w.heap.size w W → RA3 W v l from fun W hb => hv.below hb)
  obtain ⟨A, c, rfl, hm, _⟩ := hv
  clear hcall hm
  go_enter Tryz.func183, Tryz.ntmps183
  go_wp2_with fail
  go_loopw [8] (fun i wr => ∃ k : Nat, k ≤ l.length ∧ i = .int .i64 k ∧ (∀ j, j < k → p j = false) ∧ Below w.heap.size w wr)
    (fun i _ => l.length - (intOf i).toNat)
  case atStart => exact ⟨0, Nat.zero_le _, rfl, fun j hj => by omega, Below.refl _ _⟩
  case round =>
    obtain ⟨k, hk, rfl, hall, hbel⟩ := hrel
    have HALL := Lib.hid hall
    clear hall
    by_cases hlt : k < l.length
    · obtain ⟨b, o, c', ev, k0, k1, k2⟩ := (HV.out wr hbel).at_ (List.getElem?_eq_getElem hlt)
      cases ev
      have H := Lib.hid (HC.out k _ wr (List.getElem?_eq_getElem hlt) hbel)
      generalize l[k] = x at *
      have HB := Lib.hid hbel
      clear hbel
      cases hp : p k
      · have HN := Lib.hid (none_next HALL.out hp)
        rw [hp] at H
        clear hp
        go_wp2_with ((with_reducible refine H.out.mono ?_); rintro e w1 ⟨rfl, hb1⟩)
        go_roundw
        case rel => exact ⟨k + 1, by omega, by go_num, HN.out, HB.out.trans (hb1.mono HB.out.size)⟩
        case measure => simp [intOf]; omega
      · have HE := Lib.hid (idxR_some hlt HALL.out hp)
        rw [hp] at H
        clear hp
        go_wp2_with ((with_reducible refine H.out.mono ?_); rintro e w1 ⟨rfl, hb1⟩)
        go_ret
        exact ⟨by rw [HE.out]; rfl, HB.out.trans (hb1.mono HB.out.size)⟩
    · obtain rfl : k = l.length := by omega
      have HE := Lib.hid (idxR_none HALL.out)
      go_wp2
      go_ret
      exact ⟨by rw [HE.out]; rfl, hbel⟩

set_option maxHeartbeats 1000000 in
theorem containsFuncT_any (v : Value) (l : List I3) (F : FuncId) (cap : Array Value) (p : Nat → Bool) (w : World) (hn : l.length ≤ 16777216) (hv : RA3 w v l)
    (hF : ∀ (args : Array Value) (w : World), (callFunc F args).run Tryz.prog w = .ok (.enter F args) w)
    (hcall : ∀ (k : Nat) (x : I3) (W : World), l[k]? = some x → Below w.heap.size w W → Calls Tryz.prog F (#[.agg #[.int .i64 x.1, .int .i64 x.2.1, .int .i64 x.2.2]] ++ cap) W fun e W' => e = .returned (.bool (p k)) ∧ Below W.heap.size W W') :
    Calls Tryz.prog 167 #[v, .func (.func F) #[] cap] w fun e w' => e = .returned (.bool (anyR l.length p)) ∧ Below w.heap.size w w' := by
  have H := Lib.hid (indexFuncT_any v l F cap p w hn hv hF hcall)
  have HI := Lib.hid (idxR_any l.length p)
  obtain ⟨A, c, rfl, hm, _⟩ := hv
  clear hF hcall hm
  go_enter Tryz.func167, Tryz.ntmps167
  go_wp2_with ((with_reducible refine H.out.mono ?_); rintro e w1 ⟨rfl, hb1⟩)
  go_ret
  exact ⟨by rw [← HI.out]; rfl, hb1⟩

end Go.Proofs.YtdgnhfhaaghoaaaGreatDoor

set_option linter.unusedVariables false
namespace Go.Proofs.YtdgnhfhaaghoaaaGreatDoor
open Go.RowKit

/-- A function value that tells a relation of the ends of steps, in every world above w. -/
def Tells (w : World) (F : FuncId) (cap : Array Value) (dom : Int → Prop) (rel : Int → Int → Bool) : Prop :=
  ∀ (x y : Int) (W : World), dom x → dom y → Below w.heap.size w W → Calls Tryz.prog F (#[.int .i64 x, .int .i64 y] ++ cap) W fun e W' => e = .returned (.bool (rel x y)) ∧ Below W.heap.size W W'

set_option maxRecDepth 100000 in
set_option maxHeartbeats 2000000 in
theorem follows11_any (a b : I3) (t : Int) (pt pa pr : Nat) (F : FuncId) (cap : Array Value) (r : Bool) (w : World)
    (ht : w.cell? ⟨pt, 0, none⟩ = some (.int .i64 t)) (ha1 : w.cell? ⟨pa, 1, none⟩ = some (.int .i64 a.2.1)) (ha2 : w.cell? ⟨pa, 2, none⟩ = some (.int .i64 a.2.2)) (hr : w.cell? ⟨pr, 0, none⟩ = some (.func (.func F) #[] cap))
    (hF : ∀ (args : Array Value) (w : World), (callFunc F args).run Tryz.prog w = .ok (.enter F args) w)
    (hcall : ∀ W, Below w.heap.size w W → Calls Tryz.prog F (#[.int .i64 a.2.2, .int .i64 b.2.2] ++ cap) W fun e W' => e = .returned (.bool r) ∧ Below W.heap.size W W') :
    Calls Tryz.prog 169 #[.agg #[.int .i64 b.1, .int .i64 b.2.1, .int .i64 b.2.2], .pointer (some ⟨pt, 0, none⟩), .pointer (some ⟨pa, 0, none⟩), .pointer (some ⟨pr, 0, none⟩)] w fun e w' => e = .returned (.bool ((b.1 == t) && (b.2.1 == a.2.1) && r)) ∧ Below w.heap.size w w' := by
  have hal : Below w.heap.size w (w.alloc (.cells #[.int .i64 b.1, .int .i64 b.2.1, .int .i64 b.2.2] 103)) := (Below.refl _ _).alloc (Nat.le_refl _) _
  have HB := Lib.hid hal
  have H := Lib.hid (hcall _ hal)
  have ht := cell_below hal ht (lt_of_cell ht)
  have ha1 := cell_below hal ha1 (lt_of_cell ha1)
  have ha2 := cell_below hal ha2 (lt_of_cell ha2)
  have hr := cell_below hal hr (lt_of_cell hr)
  clear hal hcall
  cases h1 : (b.1 == t)
  · go_enter Tryz.func169, Tryz.ntmps169
    go_wp2_with fail
    go_ret
    exact ⟨rfl, HB.out⟩
  · cases h2 : (b.2.1 == a.2.1)
    · go_enter Tryz.func169, Tryz.ntmps169
      go_wp2_with fail
      go_ret
      exact ⟨rfl, HB.out⟩
    · go_enter Tryz.func169, Tryz.ntmps169
      go_wp2_with ((with_reducible refine H.out.mono ?_); rintro e w1 ⟨rfl, hb1⟩)
      go_ret
      exact ⟨rfl, HB.out.trans (hb1.mono HB.out.size)⟩

set_option maxRecDepth 100000 in
set_option maxHeartbeats 4000000 in
theorem follows1_any (l : Lab) (a : I3) (s t : Int) (dom : Int → Prop) (rel : Int → Int → Bool) (sv D : Value) (ps pl pt pr : Nat) (F : FuncId) (cap : Array Value) (w : World) (hn : l.steps.length ≤ 16777216)
    (hs : w.cell? ⟨ps, 0, none⟩ = some (.int .i64 s)) (hl : w.cell? ⟨pl, 1, none⟩ = some D) (hD : RA3 w D l.steps) (ht : w.cell? ⟨pt, 0, none⟩ = some (.int .i64 t)) (hr : w.cell? ⟨pr, 0, none⟩ = some (.func (.func F) #[] cap))
    (hF : ∀ (args : Array Value) (w : World), (callFunc F args).run Tryz.prog w = .ok (.enter F args) w) (hda : dom a.2.2) (hdom : ∀ b ∈ l.steps, dom b.2.2) (hT : Tells w F cap dom rel) :
    Calls Tryz.prog 168 #[.agg #[.int .i64 a.1, .int .i64 a.2.1, .int .i64 a.2.2], .pointer (some ⟨ps, 0, none⟩), .pointer (some ⟨pl, 0, none⟩), .pointer (some ⟨pt, 0, none⟩), .pointer (some ⟨pr, 0, none⟩)] w
      fun e w' => e = .returned (.bool (!(!(a.1 == s) || l.steps.any fun b => (b.1 == t) && (b.2.1 == a.2.1) && rel a.2.2 b.2.2))) ∧ Below w.heap.size w w' := by
  have hal : Below w.heap.size w (w.alloc (.cells #[.int .i64 a.1, .int .i64 a.2.1, .int .i64 a.2.2] 103)) := (Below.refl _ _).alloc (Nat.le_refl _) _
  have HB := Lib.hid hal
  have ha1 : (w.alloc (.cells #[.int .i64 a.1, .int .i64 a.2.1, .int .i64 a.2.2] 103)).cell? ⟨w.heap.size, 1, none⟩ = some (.int .i64 a.2.1) := cell_of_row _ _ _ _ _ _ (heap_alloc_new _ _)
  have ha2 : (w.alloc (.cells #[.int .i64 a.1, .int .i64 a.2.1, .int .i64 a.2.2] 103)).cell? ⟨w.heap.size, 2, none⟩ = some (.int .i64 a.2.2) := cell_of_row _ _ _ _ _ _ (heap_alloc_new _ _)
  have hs := cell_below hal hs (lt_of_cell hs)
  have hl := cell_below hal hl (lt_of_cell hl)
  have ht := cell_below hal ht (lt_of_cell ht)
  have hr := cell_below hal hr (lt_of_cell hr)
  have hD := hD.below hal
  have H := Lib.hid (containsFuncT_any D l.steps 169 #[.pointer (some ⟨pt, 0, none⟩), .pointer (some ⟨w.heap.size, 0, none⟩), .pointer (some ⟨pr, 0, none⟩)] (fun k => ((l.steps.getD k (0, 0, 0)).1 == t) && ((l.steps.getD k (0, 0, 0)).2.1 == a.2.1) && rel a.2.2 (l.steps.getD k (0, 0, 0)).2.2) _ hn hD
    (enter_of Tryz.func169 (by kernel_rfl) (by kernel_rfl)) (fun k x W hk hb => by
      have hx : l.steps.getD k (0, 0, 0) = x := by simp [List.getD, hk]
      rw [hx]
      have hxm := List.mem_of_getElem? hk
      exact follows11_any a x t pt w.heap.size pr F cap (rel a.2.2 x.2.2) W (cell_below hb ht (lt_of_cell ht)) (cell_below hb ha1 (lt_of_cell ha1)) (cell_below hb ha2 (lt_of_cell ha2)) (cell_below hb hr (lt_of_cell hr)) hF
        (fun W' hb' => hT _ _ W' hda (hdom x hxm) ((HB.out.trans (hb.mono HB.out.size)).trans (hb'.mono (Nat.le_trans HB.out.size hb.size))))))
  have HE := Lib.hid (show anyR l.steps.length (fun k => ((l.steps.getD k (0, 0, 0)).1 == t) && ((l.steps.getD k (0, 0, 0)).2.1 == a.2.1) && rel a.2.2 (l.steps.getD k (0, 0, 0)).2.2) = l.steps.any (fun b => (b.1 == t) && (b.2.1 == a.2.1) && rel a.2.2 b.2.2) from by
    rw [Bool.eq_iff_iff]
    unfold anyR
    rw [List.any_eq_true, List.any_eq_true]
    constructor
    · rintro ⟨k, hk, h⟩
      have hk := List.mem_range.1 hk
      refine ⟨l.steps[k], List.getElem_mem hk, ?_⟩
      simpa [List.getD, hk] using h
    · rintro ⟨b, hb, h⟩
      obtain ⟨k, hk, rfl⟩ := List.getElem_of_mem hb
      exact ⟨k, List.mem_range.2 hk, by simpa [List.getD, hk] using h⟩)
  rw [HE.out] at H
  clear HE hdom hT hF
  obtain ⟨AD, cD, rfl, _, _⟩ := hD
  generalize l.steps.any (fun b => (b.1 == t) && (b.2.1 == a.2.1) && rel a.2.2 b.2.2) = any at *
  clear ha1 ha2 hal
  cases h1 : (a.1 == s)
  · go_enter Tryz.func168, Tryz.ntmps168
    go_wp2_with fail
    go_ret
    exact ⟨rfl, HB.out⟩
  · go_enter Tryz.func168, Tryz.ntmps168
    go_wp2_with ((with_reducible refine H.out.mono ?_); rintro e w1 ⟨rfl, hb1⟩)
    go_ret
    exact ⟨by simp, HB.out.trans (hb1.mono HB.out.size)⟩

set_option maxRecDepth 100000 in
set_option maxHeartbeats 4000000 in
theorem follows_any (v : Value) (l : Lab) (s t : Int) (dom : Int → Prop) (rel : Int → Int → Bool) (F : FuncId) (cap : Array Value) (w : World) (hn : l.steps.length ≤ 16777216) (hv : RLab w v l)
    (hF : ∀ (args : Array Value) (w : World), (callFunc F args).run Tryz.prog w = .ok (.enter F args) w) (hdom : ∀ b ∈ l.steps, dom b.2.2) (hT : Tells w F cap dom rel) :
    Calls Tryz.prog 108 #[v, .int .i64 s, .int .i64 t, .func (.func F) #[] cap] w fun e w' => e = .returned (.bool (folB l.steps s t rel)) ∧ Below w.heap.size w w' := by
  obtain ⟨sv, D, rfl, hsv, hD⟩ := hv
  obtain ⟨W0, hW0⟩ : ∃ W0, W0 = (((w.alloc (.cells #[sv, D] 27)).alloc (.cells #[.int .i64 s] 3)).alloc (.cells #[.int .i64 t] 3)).alloc (.cells #[.func (.func F) #[] cap] 116) := ⟨_, rfl⟩
  have hz : Below w.heap.size w W0 := by
    rw [hW0]
    exact ((((Below.refl _ _).alloc (Nat.le_refl _) _).alloc (by simp) _).alloc (by simp; omega) _).alloc (by simp; omega) _
  have x0 : W0.cell? ⟨w.heap.size, 1, none⟩ = some D := by
    rw [hW0]
    refine cell_of_row _ _ _ _ _ _ ((heap_alloc_old _ _ (by simp only [World.size_alloc]; omega)).trans ((heap_alloc_old _ _ (by simp only [World.size_alloc]; omega)).trans ((heap_alloc_old _ _ (by simp)).trans (heap_alloc_new _ _))))
  have x1 : W0.cell? ⟨w.heap.size + 1, 0, none⟩ = some (.int .i64 s) := by
    rw [hW0]
    have h := heap_alloc_new (w.alloc (.cells #[sv, D] 27)) (.cells #[.int .i64 s] 3)
    rw [World.size_alloc] at h
    exact cell_of_row _ _ _ _ _ _ ((heap_alloc_old _ _ (by simp only [World.size_alloc]; omega)).trans ((heap_alloc_old _ _ (by simp)).trans h))
  have x2 : W0.cell? ⟨w.heap.size + 1 + 1, 0, none⟩ = some (.int .i64 t) := by
    rw [hW0]
    have h := heap_alloc_new ((w.alloc (.cells #[sv, D] 27)).alloc (.cells #[.int .i64 s] 3)) (.cells #[.int .i64 t] 3)
    rw [World.size_alloc, World.size_alloc] at h
    exact cell_of_row _ _ _ _ _ _ ((heap_alloc_old _ _ (by simp)).trans h)
  have x3 : W0.cell? ⟨w.heap.size + 1 + 1 + 1, 0, none⟩ = some (.func (.func F) #[] cap) := by
    rw [hW0]
    have h := heap_alloc_new (((w.alloc (.cells #[sv, D] 27)).alloc (.cells #[.int .i64 s] 3)).alloc (.cells #[.int .i64 t] 3)) (.cells #[.func (.func F) #[] cap] 116)
    rw [World.size_alloc, World.size_alloc, World.size_alloc] at h
    exact cell_of_row _ _ _ _ _ _ h
  have hD0 := hD.below hz
  have H := Lib.hid (containsFuncT_any D l.steps 168 #[.pointer (some ⟨w.heap.size + 1, 0, none⟩), .pointer (some ⟨w.heap.size, 0, none⟩), .pointer (some ⟨w.heap.size + 1 + 1, 0, none⟩), .pointer (some ⟨w.heap.size + 1 + 1 + 1, 0, none⟩)]
    (fun k => !(!((l.steps.getD k (0, 0, 0)).1 == s) || l.steps.any fun b => (b.1 == t) && (b.2.1 == (l.steps.getD k (0, 0, 0)).2.1) && rel (l.steps.getD k (0, 0, 0)).2.2 b.2.2)) W0 hn hD0
    (enter_of Tryz.func168 (by kernel_rfl) (by kernel_rfl)) (fun k x W hk hb => by
      have hx : l.steps.getD k (0, 0, 0) = x := by simp [List.getD, hk]
      rw [hx]
      have hxm := List.mem_of_getElem? hk
      exact follows1_any l x s t dom rel sv D (w.heap.size + 1) w.heap.size (w.heap.size + 1 + 1) (w.heap.size + 1 + 1 + 1) F cap W hn (cell_below hb x1 (lt_of_cell x1)) (cell_below hb x0 (lt_of_cell x0)) (hD0.below hb) (cell_below hb x2 (lt_of_cell x2)) (cell_below hb x3 (lt_of_cell x3)) hF (hdom x hxm) hdom
        (fun x y W' h1 h2 hb' => hT x y W' h1 h2 ((hz.trans (hb.mono hz.size)).trans (hb'.mono (Nat.le_trans hz.size hb.size))))))
  have HE := Lib.hid (show (!anyR l.steps.length fun k => !(!((l.steps.getD k (0, 0, 0)).1 == s) || l.steps.any fun b => (b.1 == t) && (b.2.1 == (l.steps.getD k (0, 0, 0)).2.1) && rel (l.steps.getD k (0, 0, 0)).2.2 b.2.2)) = folB l.steps s t rel from by
    rw [any_not l.steps.length _ _ (fun k _ => rfl)]
    unfold folB allR
    rw [Bool.eq_iff_iff, List.all_eq_true, List.all_eq_true]
    constructor
    · intro h b hb
      obtain ⟨k, hk, rfl⟩ := List.getElem_of_mem hb
      have := h k (List.mem_range.2 hk)
      simpa [List.getD, hk] using this
    · intro h k hk
      have hk := List.mem_range.1 hk
      have := h _ (List.getElem_mem hk)
      simpa [List.getD, hk] using this)
  have HZ := Lib.hid hz
  clear hz hD hsv hdom hT x1 x2 x3
  obtain ⟨AD, cD, rfl, _, _⟩ := hD0
  generalize hX : (anyR l.steps.length fun k => !(!((l.steps.getD k (0, 0, 0)).1 == s) || l.steps.any fun b => (b.1 == t) && (b.2.1 == (l.steps.getD k (0, 0, 0)).2.1) && rel (l.steps.getD k (0, 0, 0)).2.2 b.2.2)) = X at *
  clear hX
  go_enter Tryz.func108, Tryz.ntmps108
  rw [hW0] at x0 H HZ
  clear hW0
  go_wp2_with fail
  refine H.out.mono ?_
  rintro e w1 ⟨rfl, hb1⟩
  go_wp2_with fail
  go_ret
  exact ⟨by rw [← HE.out]; rfl, HZ.out.trans (hb1.mono HZ.out.size)⟩

end Go.Proofs.YtdgnhfhaaghoaaaGreatDoor
