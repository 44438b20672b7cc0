/- The walks of the order on numbers, lists and triples: cmp.Compare, slices.Compare at []int, compareSteps, l10Before. -/
import Derived.Test.YtdgnhfhaaghoaaaGreatDoorProg
import Derived.Test.YtdgnhfhaaghoaaaGreatDoorJ2
import Derived.Test.YtdgnhfhaaghoaaaGreatDoorJ0
set_option linter.unusedSimpArgs false
set_option linter.unusedVariables false
namespace Go.Proofs.YtdgnhfhaaghoaaaGreatDoor
open Go.RowKit

def cmpI (x y : Int) : Int := if x < y then -1 else if y < x then 1 else 0
theorem cmpI_lt {x y : Int} (h : x < y) : cmpI x y = -1 := by simp [cmpI, h]
theorem cmpI_gt {x y : Int} (h : y < x) : cmpI x y = 1 := by unfold cmpI; rw [if_neg (by omega), if_pos h]
theorem cmpI_eq (x : Int) : cmpI x x = 0 := by simp [cmpI]

set_option maxHeartbeats 400000 in
theorem cmpCompare_any (x y : Int) (w : World) :
    Calls Tryz.prog 204 #[.int .i64 x, .int .i64 y] w fun e w' => e = .returned (.int .i64 (cmpI x y)) ∧ w = w' := by
  have hn : ∀ (z : Int) (w : World), Calls Tryz.prog 211 #[.int .i64 z] w fun e w' => e = .returned (.bool false) ∧ w = w' := by
    intro z w
    have h1 : (z != z) = false := by rw [bne_self_eq_false]
    go_enter Tryz.func211, Tryz.ntmps211
    go_wp2
    go_ret
    exact ⟨rfl, rfl⟩
  have H := Lib.hid hn
  clear hn
  rcases Int.lt_trichotomy x y with h | h | h
  · rw [cmpI_lt h]
    go_enter Tryz.func204, Tryz.ntmps204
    go_wp2_with ((with_reducible refine (H.out _ _).mono ?_); rintro e w' ⟨rfl, rfl⟩)
    go_ret
    exact ⟨rfl, rfl⟩
  · subst h
    rw [cmpI_eq]
    go_enter Tryz.func204, Tryz.ntmps204
    go_wp2_with ((with_reducible refine (H.out _ _).mono ?_); rintro e w' ⟨rfl, rfl⟩)
    go_ret
    exact ⟨rfl, rfl⟩
  · rw [cmpI_gt h]
    have h' : ¬ x < y := by omega
    go_enter Tryz.func204, Tryz.ntmps204
    go_wp2_with ((with_reducible refine (H.out _ _).mono ?_); rintro e w' ⟨rfl, rfl⟩)
    go_ret
    exact ⟨rfl, rfl⟩

def cmpL : List Int → List Int → Int
  | [], [] => 0
  | [], _ :: _ => -1
  | _ :: _, [] => 1
  | x :: xs, y :: ys => if cmpI x y != 0 then cmpI x y else cmpL xs ys

set_option maxHeartbeats 1000000 in
theorem slicesCompare_any (A B : Option Addr) (c d : Nat) (xs ys : List Int) (w : World) (hn : xs.length ≤ 16777216) (hm : ys.length ≤ 16777216) (hA : Cells w A (ints xs)) (hB : Cells w B (ints ys)) :
    Calls Tryz.prog 181 #[.slice A xs.length c, .slice B ys.length d] w fun e w' => e = .returned (.int .i64 (cmpL xs ys)) ∧ w = w' := by
  go_enter Tryz.func181, Tryz.ntmps181
  go_wp2_with fail
  go_loop [11] (fun i => ∃ k : Nat, k ≤ xs.length ∧ k ≤ ys.length ∧ i = .int .i64 k ∧ cmpL xs ys = cmpL (xs.drop k) (ys.drop k))
    (fun i => xs.length - (intOf i).toNat)
  case atStart => exact ⟨0, Nat.zero_le _, Nat.zero_le _, rfl, rfl⟩
  case round =>
    obtain ⟨k, hk, hk2, rfl, hE⟩ := hrel
    by_cases hlt : k < xs.length
    · obtain ⟨b, o, rfl, hc⟩ := hA.int hlt
      have hck := hc k hlt
      clear hc hA
      have hd : xs.drop k = xs.getD k 0 :: xs.drop (k + 1) := by rw [List.drop_eq_getElem_cons hlt]; simp [List.getD, hlt]
      rw [hd] at hE
      clear hd
      by_cases hlt2 : k < ys.length
      · obtain ⟨b', o', rfl, hc'⟩ := hB.int hlt2
        have hck' := hc' k hlt2
        clear hc' hB
        have hd : ys.drop k = ys.getD k 0 :: ys.drop (k + 1) := by rw [List.drop_eq_getElem_cons hlt2]; simp [List.getD, hlt2]
        rw [hd, cmpL] at hE
        clear hd
        generalize xs.getD k 0 = x at *
        generalize ys.getD k 0 = y at *
        have H := Lib.hid (cmpCompare_any x y w)
        cases hne : cmpI x y != 0
        · rw [hne] at hE
          have HE := Lib.hid hE
          clear hE
          go_wp2_with ((with_reducible refine H.out.mono ?_); rintro e w' ⟨rfl, rfl⟩)
          go_round
          case rel => exact ⟨k + 1, by omega, by omega, by go_num, HE.out⟩
          case measure => simp [intOf]; omega
        · rw [hne, if_pos rfl] at hE
          have HE := Lib.hid hE
          clear hE
          go_wp2_with ((with_reducible refine H.out.mono ?_); rintro e w' ⟨rfl, rfl⟩)
          go_ret
          rw [HE.out]
          exact ⟨rfl, rfl⟩
      · obtain rfl : k = ys.length := by omega
        have hd : ys.drop ys.length = [] := by simp
        rw [hd, cmpL] at hE
        have HE := Lib.hid hE
        clear hE hd
        go_wp2_with fail
        go_ret
        rw [HE.out]
        exact ⟨rfl, rfl⟩
    · obtain rfl : k = xs.length := by omega
      have hd : xs.drop xs.length = [] := by simp
      rw [hd] at hE
      by_cases hlt2 : xs.length < ys.length
      · rw [List.drop_eq_getElem_cons hlt2, cmpL] at hE
        have HE := Lib.hid hE
        clear hE hd
        go_wp2_with fail
        go_ret
        rw [HE.out]
        exact ⟨rfl, rfl⟩
      · have he : ys.drop xs.length = [] := by simp; omega
        rw [he, cmpL] at hE
        have HE := Lib.hid hE
        clear hE hd he
        go_wp2_with fail
        go_ret
        rw [HE.out]
        exact ⟨rfl, rfl⟩

def lt3 (t u : I3) : Bool := decide (cmpL [t.1, t.2.1, t.2.2] [u.1, u.2.1, u.2.2] < 0)
def cmp3 (t u : I3) : Int := cmpL [t.1, t.2.1, t.2.2] [u.1, u.2.1, u.2.2]

theorem cells_of_heap {w : World} {g : Nat} {cs : List Value} {t : TypeId} {fr : Nat × Nat} (h : w.heap[g]? = some (.cells cs.toArray t fr)) : Cells w (some ⟨g, 0, none⟩) cs := fun j u hj => by
  refine ⟨g, 0, rfl, ?_⟩
  rw [Nat.zero_add, cell_of_row _ _ _ _ _ _ h]
  simpa using hj

set_option maxRecDepth 100000 in
set_option maxHeartbeats 1000000 in
theorem compareSteps_any (t u : I3) (w : World) :
    Calls Tryz.prog 156 #[.agg #[.int .i64 t.1, .int .i64 t.2.1, .int .i64 t.2.2], .agg #[.int .i64 u.1, .int .i64 u.2.1, .int .i64 u.2.2]] w fun e w' => e = .returned (.int .i64 (cmp3 t u)) ∧ Below w.heap.size w w' := by
  have hb : ∀ o1 o2, Below w.heap.size w ((w.alloc o1).alloc o2) := fun o1 o2 => ((Below.refl _ _).alloc (Nat.le_refl _) o1).alloc (by simp) o2
  unfold cmp3
  go_enter Tryz.func156, Tryz.ntmps156
  go_wp2
  go_still_tail 2, (by kernel_rfl)
  obtain ⟨b0, b1, _⟩ := two_boxes (Below.refl ((w.alloc (.cells #[.int .i64 t.1, .int .i64 t.2.1, .int .i64 t.2.2] 103)).alloc (.cells #[.int .i64 u.1, .int .i64 u.2.1, .int .i64 u.2.2] 103)).heap.size ((w.alloc (.cells #[.int .i64 t.1, .int .i64 t.2.1, .int .i64 t.2.2] 103)).alloc (.cells #[.int .i64 u.1, .int .i64 u.2.1, .int .i64 u.2.2] 103)))
  have H0 := (slicesCompare_any _ _ 3 3 [t.1, t.2.1, t.2.2] [u.1, u.2.1, u.2.2] ((w.alloc (.cells #[.int .i64 t.1, .int .i64 t.2.1, .int .i64 t.2.2] 103)).alloc (.cells #[.int .i64 u.1, .int .i64 u.2.1, .int .i64 u.2.2] 103)).drew (by simp) (by simp) (cells_of_heap b0) (cells_of_heap b1))
  simp only [List.length_cons, List.length_nil, Nat.zero_add, Nat.reduceAdd] at H0
  have H := Lib.hid H0
  change wpList _ _ _ _ _ (World.drew _)
  clear b0 b1 H0
  go_wp2_with ((with_reducible refine H.out.mono ?_); rintro e w1 ⟨rfl, rfl⟩)
  go_ret
  exact ⟨rfl, (hb _ _).drew⟩

theorem cmpI_pos {x y : Int} : cmpI x y < 0 ↔ x < y := by
  unfold cmpI
  split
  · simp [*]
  · split <;> simp <;> omega

theorem lt3_ne1 {x y z x' y' z' : Int} (h : x ≠ x') : lt3 (x, y, z) (x', y', z') = decide (x < x') := by
  have : cmpI x x' ≠ 0 := by unfold cmpI; split <;> (try split) <;> (try simp) <;> omega
  unfold lt3
  simp only [cmpL, bne_iff_ne, ne_eq, this, not_false_eq_true, if_true, cmpI_pos]
theorem lt3_ne2 {x y z y' z' : Int} (h : y ≠ y') : lt3 (x, y, z) (x, y', z') = decide (y < y') := by
  have : cmpI y y' ≠ 0 := by unfold cmpI; split <;> (try split) <;> (try simp) <;> omega
  unfold lt3
  simp [cmpL, this, cmpI_pos, cmpI_eq]
theorem lt3_ne3 {x y z z' : Int} (h : z ≠ z') : lt3 (x, y, z) (x, y, z') = decide (z < z') := by
  have : cmpI z z' ≠ 0 := by unfold cmpI; split <;> (try split) <;> (try simp) <;> omega
  unfold lt3
  simp [cmpL, this, cmpI_pos, cmpI_eq]
theorem lt3_self {x y z : Int} : lt3 (x, y, z) (x, y, z) = false := by
  unfold lt3
  simp [cmpL, cmpI_eq]

set_option maxHeartbeats 1000000 in
theorem l10Before_any (t u : I3) (w : World) :
    Calls Tryz.prog 150 #[.agg #[.int .i64 t.1, .int .i64 t.2.1, .int .i64 t.2.2], .agg #[.int .i64 u.1, .int .i64 u.2.1, .int .i64 u.2.2]] w fun e w' => e = .returned (.bool (lt3 t u)) ∧ Below w.heap.size w w' := by
  obtain ⟨x, y, z⟩ := t
  obtain ⟨x', y', z'⟩ := u
  by_cases hx0 : x = x'
  · subst hx0
    by_cases hy0 : y = y'
    · subst hy0
      by_cases hz0 : z = z'
      · subst hz0
        have hx : (x != x) = false := by rw [bne_self_eq_false]
        have hy : (y != y) = false := by rw [bne_self_eq_false]
        have hz : (z != z) = false := by rw [bne_self_eq_false]
        have HE := Lib.hid (show lt3 (x, y, z) (x, y, z) = false from lt3_self)
        go_enter Tryz.func150, Tryz.ntmps150
        go_wp2
        refine wp_loop_rounds 4 ?_
        rw [rounds_succ]
        go_wp2
        go_quiet (fail)
        go_wp2
        rw [rounds_succ]
        go_wp2
        go_quiet (fail)
        go_wp2
        rw [rounds_succ]
        go_wp2
        go_quiet (fail)
        go_wp2
        rw [rounds_succ]
        go_wp2
        go_ret
        rw [HE.out]
        exact ⟨rfl, by (repeat apply below_drewN'); exact ((Below.refl _ _).alloc (Nat.le_refl _) _).alloc (by simp) _⟩
      · have hn := hz0
        have hx : (x != x) = false := by rw [bne_self_eq_false]
        have hy : (y != y) = false := by rw [bne_self_eq_false]
        have hb : (z != z') = true := by rw [bne_iff_ne]; exact hn
        have HE := Lib.hid (show lt3 (x, y, z) (x, y, z') = decide (z < z') from lt3_ne3 hn)
        clear hn hz0
        go_enter Tryz.func150, Tryz.ntmps150
        go_wp2
        refine wp_loop_rounds 4 ?_
        rw [rounds_succ]
        go_wp2
        go_quiet (fail)
        go_wp2
        rw [rounds_succ]
        go_wp2
        go_quiet (fail)
        go_wp2
        rw [rounds_succ]
        go_wp2
        go_quiet (fail)
        go_wp2
        go_quiet (fail)
        go_wp2
        go_ret
        rw [HE.out]
        exact ⟨rfl, by (repeat apply below_drewN'); exact ((Below.refl _ _).alloc (Nat.le_refl _) _).alloc (by simp) _⟩
    · have hn := hy0
      have hx : (x != x) = false := by rw [bne_self_eq_false]
      have hb : (y != y') = true := by rw [bne_iff_ne]; exact hn
      have HE := Lib.hid (show lt3 (x, y, z) (x, y', z') = decide (y < y') from lt3_ne2 hn)
      clear hn hy0
      go_enter Tryz.func150, Tryz.ntmps150
      go_wp2
      refine wp_loop_rounds 4 ?_
      rw [rounds_succ]
      go_wp2
      go_quiet (fail)
      go_wp2
      rw [rounds_succ]
      go_wp2
      go_quiet (fail)
      go_wp2
      go_quiet (fail)
      go_wp2
      go_ret
      rw [HE.out]
      exact ⟨rfl, by (repeat apply below_drewN'); exact ((Below.refl _ _).alloc (Nat.le_refl _) _).alloc (by simp) _⟩
  · have hn := hx0
    have hb : (x != x') = true := by rw [bne_iff_ne]; exact hn
    have HE := Lib.hid (show lt3 (x, y, z) (x', y', z') = decide (x < x') from lt3_ne1 hn)
    clear hn hx0
    go_enter Tryz.func150, Tryz.ntmps150
    go_wp2
    refine wp_loop_rounds 4 ?_
    rw [rounds_succ]
    go_wp2
    go_quiet (fail)
    go_wp2
    go_quiet (fail)
    go_wp2
    go_ret
    rw [HE.out]
    exact ⟨rfl, by (repeat apply below_drewN'); exact ((Below.refl _ _).alloc (Nat.le_refl _) _).alloc (by simp) _⟩

end Go.Proofs.YtdgnhfhaaghoaaaGreatDoor
