/- The walks of the order on numbers, lists and triples: cmp.Compare, slices.Compare at []int, compareSteps, l10Before. The walks of the two functions that find the end of a formula: program and reference. Conditions: the slice's cells are readable. The walks of the two functions that ask whether numbers are strictly ascending, and of slices.IndexFunc, slices.ContainsFunc at a quiet closure. slices.IndexFunc and slices.ContainsFunc: what they answer, for a closure that is known by its contract. -/
import Derived.Test.YtdgnhfhaaghoaaaGreatDoorProg
import Derived.Test.YtdgnhfhaaghoaaaGreatDoorJ2
import Derived.Test.YtdgnhfhaaghoaaaGreatDoorJ0
import Derived.WalkKit
import Derived.WalkSpells
import Derived.WalkLawsBesides
import Derived.Lib.Hide
import Derived.BigQuiet
import Derived.Deep.QuietTactic
set_option linter.unusedSimpArgs false
set_option linter.unusedVariables false
namespace Go.Proofs.YtdgnhfhaaghoaaaGreatDoor
open Go.RowKit

def cmpI (x y : Int) : Int := if x < y then -1 else if y < x then 1 else 0
theorem cmpI_lt {x y : Int} (h : x < y) : cmpI x y = -1 := by simp [cmpI, h]
theorem cmpI_gt {x y : Int} (h : y < x) : cmpI x y = 1 := by unfold cmpI; rw [if_neg (by omega), if_pos h]
theorem cmpI_eq (x : Int) : cmpI x x = 0 := by simp [cmpI]

set_option maxHeartbeats 400000 in
theorem cmpCompare_any (x y : Int) (w : World) :
    Calls Tryz.prog 204 #[.int .i64 x, .int .i64 y] w fun e w' => e = .returned (.int .i64 (cmpI x y)) ∧ w = w' := by
  have hn : ∀ (z : Int) (w : World), Calls Tryz.prog 211 #[.int .i64 z] w fun e w' => e = .returned (.bool false) ∧ w = w' := by
    intro z w
    have h1 : (z != z) = false := by rw [bne_self_eq_false]
    go_enter Tryz.func211, Tryz.ntmps211
    go_wp2
    go_ret
    exact ⟨rfl, rfl⟩
  have H := Lib.hid hn
  clear hn
  rcases Int.lt_trichotomy x y with h | h | h
  · rw [cmpI_lt h]
    go_enter Tryz.func204, Tryz.ntmps204
    go_wp2_with ((with_reducible refine (H.out _ _).mono ?_); rintro e w' ⟨rfl, rfl⟩)
    go_ret
    exact ⟨rfl, rfl⟩
  · subst h
    rw [cmpI_eq]
    go_enter Tryz.func204, Tryz.ntmps204
    go_wp2_with ((with_reducible refine (H.out _ _).mono ?_); rintro e w' ⟨rfl, rfl⟩)
    go_ret
    exact ⟨rfl, rfl⟩
  · rw [cmpI_gt h]
    have h' : ¬ x < y := by omega
    go_enter Tryz.func204, Tryz.ntmps204
    go_wp2_with ((with_reducible refine (H.out _ _).mono ?_); rintro e w' ⟨rfl, rfl⟩)
    go_ret
    exact ⟨rfl, rfl⟩

def cmpL : List Int → List Int → Int
  | [], [] => 0
  | [], _ :: _ => -1
  | _ :: _, [] => 1
  | x :: xs, y :: ys => if cmpI x y != 0 then cmpI x y else cmpL xs ys

set_option maxHeartbeats 1000000 in
theorem slicesCompare_any (A B : Option Addr) (c d : Nat) (xs ys : List Int) (w : World) (hn : xs.length ≤ 16777216) (hm : ys.length ≤ 16777216) (hA : Cells w A (ints xs)) (hB : Cells w B (ints ys)) :
    Calls Tryz.prog 181 #[.slice A xs.length c, .slice B ys.length d] w fun e w' => e = .returned (.int .i64 (cmpL xs ys)) ∧ w = w' := by
  go_enter Tryz.func181, Tryz.ntmps181
  go_wp2_with fail
  go_loop [11] (fun i => ∃ k : Nat, k ≤ xs.length ∧ k ≤ ys.length ∧ i = .int .i64 k ∧ cmpL xs ys = cmpL (xs.drop k) (ys.drop k))
    (fun i => xs.length - (intOf i).toNat)
  case atStart => exact ⟨0, Nat.zero_le _, Nat.zero_le _, rfl, rfl⟩
  case round =>
    obtain ⟨k, hk, hk2, rfl, hE⟩ := hrel
    by_cases hlt : k < xs.length
    · obtain ⟨b, o, rfl, hc⟩ := hA.int hlt
      have hck := hc k hlt
      clear hc hA
      have hd : xs.drop k = xs.getD k 0 :: xs.drop (k + 1) := by rw [List.drop_eq_getElem_cons hlt]; simp [List.getD, hlt]
      rw [hd] at hE
      clear hd
      by_cases hlt2 : k < ys.length
      · obtain ⟨b', o', rfl, hc'⟩ := hB.int hlt2
        have hck' := hc' k hlt2
        clear hc' hB
        have hd : ys.drop k = ys.getD k 0 :: ys.drop (k + 1) := by rw [List.drop_eq_getElem_cons hlt2]; simp [List.getD, hlt2]
        rw [hd, cmpL] at hE
        clear hd
        generalize xs.getD k 0 = x at *
        generalize ys.getD k 0 = y at *
        have H := Lib.hid (cmpCompare_any x y w)
        cases hne : cmpI x y != 0
        · rw [hne] at hE
          have HE := Lib.hid hE
          clear hE
          go_wp2_with ((with_reducible refine H.out.mono ?_); rintro e w' ⟨rfl, rfl⟩)
          go_round
          case rel => exact ⟨k + 1, by omega, by omega, by go_num, HE.out⟩
          case measure => simp [intOf]; omega
        · rw [hne, if_pos rfl] at hE
          have HE := Lib.hid hE
          clear hE
          go_wp2_with ((with_reducible refine H.out.mono ?_); rintro e w' ⟨rfl, rfl⟩)
          go_ret
          rw [HE.out]
          exact ⟨rfl, rfl⟩
      · obtain rfl : k = ys.length := by omega
        have hd : ys.drop ys.length = [] := by simp
        rw [hd, cmpL] at hE
        have HE := Lib.hid hE
        clear hE hd
        go_wp2_with fail
        go_ret
        rw [HE.out]
        exact ⟨rfl, rfl⟩
    · obtain rfl : k = xs.length := by omega
      have hd : xs.drop xs.length = [] := by simp
      rw [hd] at hE
      by_cases hlt2 : xs.length < ys.length
      · rw [List.drop_eq_getElem_cons hlt2, cmpL] at hE
        have HE := Lib.hid hE
        clear hE hd
        go_wp2_with fail
        go_ret
        rw [HE.out]
        exact ⟨rfl, rfl⟩
      · have he : ys.drop xs.length = [] := by simp; omega
        rw [he, cmpL] at hE
        have HE := Lib.hid hE
        clear hE hd he
        go_wp2_with fail
        go_ret
        rw [HE.out]
        exact ⟨rfl, rfl⟩

def lt3 (t u : I3) : Bool := decide (cmpL [t.1, t.2.1, t.2.2] [u.1, u.2.1, u.2.2] < 0)
def cmp3 (t u : I3) : Int := cmpL [t.1, t.2.1, t.2.2] [u.1, u.2.1, u.2.2]

theorem cells_of_heap {w : World} {g : Nat} {cs : List Value} {t : TypeId} {fr : Nat × Nat} (h : w.heap[g]? = some (.cells cs.toArray t fr)) : Cells w (some ⟨g, 0, none⟩) cs := fun j u hj => by
  refine ⟨g, 0, rfl, ?_⟩
  rw [Nat.zero_add, cell_of_row _ _ _ _ _ _ h]
  simpa using hj

set_option maxRecDepth 100000 in
set_option maxHeartbeats 1000000 in
theorem compareSteps_any (t u : I3) (w : World) :
    Calls Tryz.prog 156 #[.agg #[.int .i64 t.1, .int .i64 t.2.1, .int .i64 t.2.2], .agg #[.int .i64 u.1, .int .i64 u.2.1, .int .i64 u.2.2]] w fun e w' => e = .returned (.int .i64 (cmp3 t u)) ∧ Below w.heap.size w w' := by
  have hb : ∀ o1 o2, Below w.heap.size w ((w.alloc o1).alloc o2) := fun o1 o2 => ((Below.refl _ _).alloc (Nat.le_refl _) o1).alloc (by simp) o2
  unfold cmp3
  go_enter Tryz.func156, Tryz.ntmps156
  go_wp2
  go_still_tail 2, (by kernel_rfl)
  obtain ⟨b0, b1, _⟩ := two_boxes (Below.refl ((w.alloc (.cells #[.int .i64 t.1, .int .i64 t.2.1, .int .i64 t.2.2] 103)).alloc (.cells #[.int .i64 u.1, .int .i64 u.2.1, .int .i64 u.2.2] 103)).heap.size ((w.alloc (.cells #[.int .i64 t.1, .int .i64 t.2.1, .int .i64 t.2.2] 103)).alloc (.cells #[.int .i64 u.1, .int .i64 u.2.1, .int .i64 u.2.2] 103)))
  have H0 := (slicesCompare_any _ _ 3 3 [t.1, t.2.1, t.2.2] [u.1, u.2.1, u.2.2] ((w.alloc (.cells #[.int .i64 t.1, .int .i64 t.2.1, .int .i64 t.2.2] 103)).alloc (.cells #[.int .i64 u.1, .int .i64 u.2.1, .int .i64 u.2.2] 103)).drew (by simp) (by simp) (cells_of_heap b0) (cells_of_heap b1))
  simp only [List.length_cons, List.length_nil, Nat.zero_add, Nat.reduceAdd] at H0
  have H := Lib.hid H0
  change wpList _ _ _ _ _ (World.drew _)
  clear b0 b1 H0
  go_wp2_with ((with_reducible refine H.out.mono ?_); rintro e w1 ⟨rfl, rfl⟩)
  go_ret
  exact ⟨rfl, (hb _ _).drew⟩

theorem cmpI_pos {x y : Int} : cmpI x y < 0 ↔ x < y := by
  unfold cmpI
  split
  · simp [*]
  · split <;> simp <;> omega

theorem lt3_ne1 {x y z x' y' z' : Int} (h : x ≠ x') : lt3 (x, y, z) (x', y', z') = decide (x < x') := by
  have : cmpI x x' ≠ 0 := by unfold cmpI; split <;> (try split) <;> (try simp) <;> omega
  unfold lt3
  simp only [cmpL, bne_iff_ne, ne_eq, this, not_false_eq_true, if_true, cmpI_pos]
theorem lt3_ne2 {x y z y' z' : Int} (h : y ≠ y') : lt3 (x, y, z) (x, y', z') = decide (y < y') := by
  have : cmpI y y' ≠ 0 := by unfold cmpI; split <;> (try split) <;> (try simp) <;> omega
  unfold lt3
  simp [cmpL, this, cmpI_pos, cmpI_eq]
theorem lt3_ne3 {x y z z' : Int} (h : z ≠ z') : lt3 (x, y, z) (x, y, z') = decide (z < z') := by
  have : cmpI z z' ≠ 0 := by unfold cmpI; split <;> (try split) <;> (try simp) <;> omega
  unfold lt3
  simp [cmpL, this, cmpI_pos, cmpI_eq]
theorem lt3_self {x y z : Int} : lt3 (x, y, z) (x, y, z) = false := by
  unfold lt3
  simp [cmpL, cmpI_eq]

set_option maxHeartbeats 1000000 in
theorem l10Before_any (t u : I3) (w : World) :
    Calls Tryz.prog 150 #[.agg #[.int .i64 t.1, .int .i64 t.2.1, .int .i64 t.2.2], .agg #[.int .i64 u.1, .int .i64 u.2.1, .int .i64 u.2.2]] w fun e w' => e = .returned (.bool (lt3 t u)) ∧ Below w.heap.size w w' := by
  obtain ⟨x, y, z⟩ := t
  obtain ⟨x', y', z'⟩ := u
  by_cases hx0 : x = x'
  · subst hx0
    by_cases hy0 : y = y'
    · subst hy0
      by_cases hz0 : z = z'
      · subst hz0
        have hx : (x != x) = false := by rw [bne_self_eq_false]
        have hy : (y != y) = false := by rw [bne_self_eq_false]
        have hz : (z != z) = false := by rw [bne_self_eq_false]
        have HE := Lib.hid (show lt3 (x, y, z) (x, y, z) = false from lt3_self)
        go_enter Tryz.func150, Tryz.ntmps150
        go_wp2
        refine wp_loop_rounds 4 ?_
        rw [rounds_succ]
        go_wp2
        go_quiet (fail)
        go_wp2
        rw [rounds_succ]
        go_wp2
        go_quiet (fail)
        go_wp2
        rw [rounds_succ]
        go_wp2
        go_quiet (fail)
        go_wp2
        rw [rounds_succ]
        go_wp2
        go_ret
        rw [HE.out]
        exact ⟨rfl, by (repeat apply below_drewN'); exact ((Below.refl _ _).alloc (Nat.le_refl _) _).alloc (by simp) _⟩
      · have hn := hz0
        have hx : (x != x) = false := by rw [bne_self_eq_false]
        have hy : (y != y) = false := by rw [bne_self_eq_false]
        have hb : (z != z') = true := by rw [bne_iff_ne]; exact hn
        have HE := Lib.hid (show lt3 (x, y, z) (x, y, z') = decide (z < z') from lt3_ne3 hn)
        clear hn hz0
        go_enter Tryz.func150, Tryz.ntmps150
        go_wp2
        refine wp_loop_rounds 4 ?_
        rw [rounds_succ]
        go_wp2
        go_quiet (fail)
        go_wp2
        rw [rounds_succ]
        go_wp2
        go_quiet (fail)
        go_wp2
        rw [rounds_succ]
        go_wp2
        go_quiet (fail)
        go_wp2
        go_quiet (fail)
        go_wp2
        go_ret
        rw [HE.out]
        exact ⟨rfl, by (repeat apply below_drewN'); exact ((Below.refl _ _).alloc (Nat.le_refl _) _).alloc (by simp) _⟩
    · have hn := hy0
      have hx : (x != x) = false := by rw [bne_self_eq_false]
      have hb : (y != y') = true := by rw [bne_iff_ne]; exact hn
      have HE := Lib.hid (show lt3 (x, y, z) (x, y', z') = decide (y < y') from lt3_ne2 hn)
      clear hn hy0
      go_enter Tryz.func150, Tryz.ntmps150
      go_wp2
      refine wp_loop_rounds 4 ?_
      rw [rounds_succ]
      go_wp2
      go_quiet (fail)
      go_wp2
      rw [rounds_succ]
      go_wp2
      go_quiet (fail)
      go_wp2
      go_quiet (fail)
      go_wp2
      go_ret
      rw [HE.out]
      exact ⟨rfl, by (repeat apply below_drewN'); exact ((Below.refl _ _).alloc (Nat.le_refl _) _).alloc (by simp) _⟩
  · have hn := hx0
    have hb : (x != x') = true := by rw [bne_iff_ne]; exact hn
    have HE := Lib.hid (show lt3 (x, y, z) (x', y', z') = decide (x < x') from lt3_ne1 hn)
    clear hn hx0
    go_enter Tryz.func150, Tryz.ntmps150
    go_wp2
    refine wp_loop_rounds 4 ?_
    rw [rounds_succ]
    go_wp2
    go_quiet (fail)
    go_wp2
    go_quiet (fail)
    go_wp2
    go_ret
    rw [HE.out]
    exact ⟨rfl, by (repeat apply below_drewN'); exact ((Below.refl _ _).alloc (Nat.le_refl _) _).alloc (by simp) _⟩

end Go.Proofs.YtdgnhfhaaghoaaaGreatDoor

set_option linter.unusedVariables false
namespace Go.Proofs.YtdgnhfhaaghoaaaGreatDoor
open Go.RowKit

def inB (n lo hi : Int) : Bool := decide (lo ≤ n) && decide (n ≤ hi)

theorem inB_true {n lo hi : Int} (h : inB n lo hi = true) : lo ≤ n ∧ n ≤ hi := by simpa [inB] using h
set_option maxHeartbeats 400000 in
theorem within_any (n lo hi : Int) (w : World) :
    Calls Tryz.prog 75 #[.int .i64 n, .int .i64 lo, .int .i64 hi] w fun e w' => e = .returned (.bool (inB n lo hi)) ∧ w = w' := by
  unfold inB
  go_enter Tryz.func75, Tryz.ntmps75
  go_wp2
  all_goals go_ret
  all_goals exact ⟨by simp [*]; try omega, rfl⟩

set_option maxHeartbeats 400000 in
theorem l1In_any (n lo hi : Int) (w : World) :
    Calls Tryz.prog 112 #[.int .i64 n, .int .i64 lo, .int .i64 hi] w fun e w' => e = .returned (.bool (inB n lo hi)) ∧ w = w' := by
  unfold inB
  go_enter Tryz.func112, Tryz.ntmps112
  go_wp2
  all_goals go_ret
  all_goals exact ⟨by simp [*]; try omega, rfl⟩

end Go.Proofs.YtdgnhfhaaghoaaaGreatDoor

set_option linter.unusedVariables false
namespace Go.Proofs.YtdgnhfhaaghoaaaGreatDoor
open Go.RowKit

def allR (n : Nat) (p : Nat → Bool) : Bool := (List.range n).all p
theorem allR_true {n : Nat} {p : Nat → Bool} (h : ∀ j, j < n → p j = true) : allR n p = true := by
  unfold allR; rw [List.all_eq_true]; intro x hx; exact h x (List.mem_range.1 hx)
theorem allR_false {n k : Nat} {p : Nat → Bool} (hk : k < n) (h : p k = false) : allR n p = false := by
  unfold allR; rw [Bool.eq_false_iff]; intro hh; rw [List.all_eq_true] at hh; have := hh k (List.mem_range.2 hk); rw [h] at this; cases this
theorem all_next {p : Nat → Bool} {k : Nat} (h : ∀ j, j < k → p j = true) (hk : p k = true) : ∀ j, j < k + 1 → p j = true := by
  intro j hj
  rcases Nat.lt_succ_iff_lt_or_eq.1 hj with h' | h'
  · exact h j h'
  · rw [h']; exact hk

theorem l1In_q (n lo hi : Int) (w : World) :
    Calls Tryz.prog 112 #[.int .i64 n, .int .i64 lo, .int .i64 hi] w fun e w' => e = .returned (.bool (inB n lo hi)) ∧ w' = w :=
  (l1In_any n lo hi w).mono fun _ _ ⟨a, b⟩ => ⟨a, b.symm⟩
theorem within_q (n lo hi : Int) (w : World) :
    Calls Tryz.prog 75 #[.int .i64 n, .int .i64 lo, .int .i64 hi] w fun e w' => e = .returned (.bool (inB n lo hi)) ∧ w' = w :=
  (within_any n lo hi w).mono fun _ _ ⟨a, b⟩ => ⟨a, b.symm⟩

/-- The number at k is in the range, and greater than the one before. -/
def riseAt (lo hi : Int) (l : List Int) (k : Nat) : Bool := inB (l.getD k 0) lo hi && (k == 0 || decide (l.getD (k - 1) 0 < l.getD k 0))
def rising (lo hi : Int) (l : List Int) : Bool := allR l.length (riseAt lo hi l)

set_option maxHeartbeats 1000000 in
theorem isRising_any (A : Option Addr) (c : Nat) (l : List Int) (below : Int) (w : World) (hn : l.length ≤ 16777216) (hb0 : 0 ≤ below) (hb1 : below ≤ 1048576) (hA : Cells w A (ints l)) :
    Calls Tryz.prog 122 #[.slice A l.length c, .int .i64 below] w fun e w' => e = .returned (.bool (rising 0 (below - 1) l)) ∧ w = w' := by
  go_enter Tryz.func122, Tryz.ntmps122
  go_wp2_with fail
  go_loop [9] (fun i => ∃ k : Nat, k ≤ l.length ∧ i = .int .i64 k ∧ ∀ j, j < k → riseAt 0 (below - 1) l j = true)
    (fun i => l.length - (intOf i).toNat)
  case atStart => exact ⟨0, Nat.zero_le _, rfl, fun j hj => by omega⟩
  case round =>
    obtain ⟨k, hk, rfl, hall⟩ := hrel
    have HALL := Lib.hid hall
    clear hall
    by_cases hlt : k < l.length
    · obtain ⟨b, o, rfl, hc⟩ := hA.int hlt
      have hck := hc k hlt
      have H := Lib.hid (within_any (l.getD k 0) 0 (below - 1) w)
      have HR : Hid (riseAt 0 (below - 1) l k = (inB (l.getD k 0) 0 (below - 1) && (k == 0 || decide (l.getD (k - 1) 0 < l.getD k 0)))) := rfl
      cases hin : inB (l.getD k 0) 0 (below - 1)
      · have HE := Lib.hid (allR_false (p := riseAt 0 (below - 1) l) hlt (by rw [HR.out, hin]; rfl))
        clear hc hA
        generalize l.getD k 0 = x at *
        go_wp2_with ((with_reducible refine H.out.mono ?_); rintro e w' ⟨rfl, rfl⟩)
        go_ret
        exact ⟨by unfold rising; rw [HE.out]; rfl, rfl⟩
      · cases k with
        | zero =>
          have hr : riseAt 0 (below - 1) l 0 = true := by rw [HR.out, hin]; rfl
          rw [Nat.add_zero] at hck
          have HT := Lib.hid (all_next HALL.out hr)
          clear hc hA hr
          generalize l.getD 0 0 = x at *
          go_wp2_with ((with_reducible refine H.out.mono ?_); rintro e w' ⟨rfl, rfl⟩)
          go_round
          case rel => exact ⟨0 + 1, by omega, by go_num, HT.out⟩
          case measure => simp [intOf]; omega
        | succ m =>
          have hcm := hc m (by omega)
          have hr : riseAt 0 (below - 1) l (m + 1) = decide (l.getD m 0 < l.getD (m + 1) 0) := by rw [HR.out, hin]; simp
          by_cases hle : l.getD (m + 1) 0 ≤ l.getD m 0
          · have HE := Lib.hid (allR_false (p := riseAt 0 (below - 1) l) hlt (by rw [hr]; simpa using hle))
            clear hc hA hr
            generalize l.getD (m + 1) 0 = x at *
            generalize l.getD m 0 = y at *
            go_wp2_with ((with_reducible refine H.out.mono ?_); rintro e w' ⟨rfl, rfl⟩)
            go_ret
            exact ⟨by unfold rising; rw [HE.out]; rfl, rfl⟩
          · have hr' : riseAt 0 (below - 1) l (m + 1) = true := by rw [hr]; rw [decide_eq_true_iff]; omega
            have HT := Lib.hid (all_next HALL.out hr')
            clear hc hA hr hr'
            generalize l.getD (m + 1) 0 = x at *
            generalize l.getD m 0 = y at *
            go_wp2_with ((with_reducible refine H.out.mono ?_); rintro e w' ⟨rfl, rfl⟩)
            go_round
            case rel => exact ⟨m + 1 + 1, by omega, by go_num, HT.out⟩
            case measure => simp [intOf]; omega
    · obtain rfl : k = l.length := by omega
      have HE := Lib.hid (allR_true HALL.out)
      go_wp2
      go_ret
      exact ⟨by unfold rising; rw [HE.out]; rfl, rfl⟩

set_option maxHeartbeats 1000000 in
theorem l1Rising_any (A : Option Addr) (c : Nat) (l : List Int) (lo hi : Int) (w : World) (hn : l.length ≤ 16777216) (hA : Cells w A (ints l)) :
    Calls Tryz.prog 149 #[.slice A l.length c, .int .i64 lo, .int .i64 hi] w fun e w' => e = .returned (.bool (rising lo hi l)) ∧ Below w.heap.size w w' := by
  go_enter Tryz.func149, Tryz.ntmps149
  go_wp2_with fail
  go_loopw [7] (fun i wr => ∃ k : Nat, k ≤ l.length ∧ i = .int .i64 k ∧ (∀ j, j < k → riseAt lo hi l j = true) ∧ Below w.heap.size w wr)
    (fun i _ => l.length - (intOf i).toNat)
  case atStart => exact ⟨0, Nat.zero_le _, rfl, fun j hj => by omega, Below.refl _ _⟩
  case round =>
    obtain ⟨k, hk, rfl, hall, hbel⟩ := hrel
    have HALL := Lib.hid hall
    clear hall
    by_cases hlt : k < l.length
    · obtain ⟨b, o, rfl, hc⟩ := (hA.below hbel).int hlt
      have hck := hc k hlt
      have H := Lib.hid (fun n => l1In_q (l.getD k 0) lo hi (wr.drewN n))
      have b0 : (0 : Int) ≤ (k : Int) := by omega
      have b1 : (k : Int) < (l.length : Int) := by omega
      have HR : Hid (riseAt lo hi l k = (inB (l.getD k 0) lo hi && (k == 0 || decide (l.getD (k - 1) 0 < l.getD k 0)))) := rfl
      cases hin : inB (l.getD k 0) lo hi
      · have HE := Lib.hid (allR_false (p := riseAt lo hi l) hlt (by rw [HR.out, hin]; rfl))
        clear hc hA
        generalize l.getD k 0 = x at *
        go_wp2_with fail
        go_quiet ((go_at_call 112; exact Calls.quiet_of_same (H.out _)))
        go_wp2
        go_ret
        exact ⟨by unfold rising; rw [HE.out]; rfl, below_drewN' hbel _⟩
      · cases k with
        | zero =>
          have hr : riseAt lo hi l 0 = true := by rw [HR.out, hin]; rfl
          rw [Nat.add_zero] at hck
          have HT := Lib.hid (all_next HALL.out hr)
          clear hc hA hr
          generalize l.getD 0 0 = x at *
          go_wp2_with fail
          go_quiet ((go_at_call 112; exact Calls.quiet_of_same (H.out _)))
          go_wp2
          go_roundw
          case rel => exact ⟨0 + 1, by omega, by go_num, HT.out, below_drewN' hbel _⟩
          case measure => simp [intOf]; omega
        | succ m =>
          have hcm := hc m (by omega)
          have hr : riseAt lo hi l (m + 1) = decide (l.getD m 0 < l.getD (m + 1) 0) := by rw [HR.out, hin]; simp
          by_cases hle : l.getD (m + 1) 0 ≤ l.getD m 0
          · have HE := Lib.hid (allR_false (p := riseAt lo hi l) hlt (by rw [hr]; simpa using hle))
            clear hc hA hr
            generalize l.getD (m + 1) 0 = x at *
            generalize l.getD m 0 = y at *
            go_wp2_with fail
            go_quiet ((go_at_call 112; exact Calls.quiet_of_same (H.out _)))
            go_wp2
            go_ret
            exact ⟨by unfold rising; rw [HE.out]; rfl, below_drewN' hbel _⟩
          · have hr' : riseAt lo hi l (m + 1) = true := by rw [hr]; rw [decide_eq_true_iff]; omega
            have HT := Lib.hid (all_next HALL.out hr')
            clear hc hA hr hr'
            generalize l.getD (m + 1) 0 = x at *
            generalize l.getD m 0 = y at *
            go_wp2_with fail
            go_quiet ((go_at_call 112; exact Calls.quiet_of_same (H.out _)))
            go_wp2
            go_roundw
            case rel => exact ⟨m + 1 + 1, by omega, by go_num, HT.out, below_drewN' hbel _⟩
            case measure => simp [intOf]; omega
    · obtain rfl : k = l.length := by omega
      have HE := Lib.hid (allR_true HALL.out)
      go_wp2
      go_ret
      exact ⟨by unfold rising; rw [HE.out]; rfl, hbel⟩

end Go.Proofs.YtdgnhfhaaghoaaaGreatDoor

set_option linter.unusedVariables false
namespace Go.Proofs.YtdgnhfhaaghoaaaGreatDoor
open Go.RowKit

/-- The first number below n for which p holds, -1 if there is none. -/
def idxR (n : Nat) (p : Nat → Bool) : Int := match (List.range n).find? p with | some k => (k : Int) | none => -1

theorem idxR_none {n : Nat} {p : Nat → Bool} (h : ∀ j, j < n → p j = false) : idxR n p = -1 := by
  have : (List.range n).find? p = none := by rw [List.find?_eq_none]; intro x hx; simp [h x (List.mem_range.1 hx)]
  unfold idxR; rw [this]
theorem idxR_some {n k : Nat} {p : Nat → Bool} (hk : k < n) (h : ∀ j, j < k → p j = false) (hp : p k = true) : idxR n p = (k : Int) := by
  have : (List.range n).find? p = some k := by
    rw [List.find?_range_eq_some]
    exact ⟨hp, List.mem_range.2 hk, fun j hj => by simp [h j hj]⟩
  unfold idxR; rw [this]
def anyR (n : Nat) (p : Nat → Bool) : Bool := (List.range n).any p
theorem idxR_any (n : Nat) (p : Nat → Bool) : decide (0 ≤ idxR n p) = anyR n p := by
  cases h : (List.range n).find? p with
  | none =>
    have h1 : idxR n p = -1 := by unfold idxR; rw [h]
    have h2 : anyR n p = false := by
      unfold anyR
      rw [List.any_eq_false]
      intro x hx
      exact List.find?_eq_none.1 h x hx
    rw [h1, h2]; rfl
  | some k =>
    have h1 : idxR n p = (k : Int) := by unfold idxR; rw [h]
    have h2 : anyR n p = true := by
      unfold anyR
      rw [List.any_eq_true]
      exact ⟨k, List.mem_of_find?_eq_some h, List.find?_some h⟩
    rw [h1, h2]; simp
theorem none_next {p : Nat → Bool} {k : Nat} (h : ∀ j, j < k → p j = false) (hk : p k = false) : ∀ j, j < k + 1 → p j = false := by
  intro j hj
  rcases Nat.lt_succ_iff_lt_or_eq.1 hj with h' | h'
  · exact h j h'
  · rw [h']; exact hk

theorem enter_of {P : Program} {F : FuncId} {fn : Func} (hf : P.funcs[F]? = some fn) (hname : (fn.name == "runtime.NumGoroutine") = false) (hb : fn.body.isNone = false) (args : Array Value) (w : World) :
    (callFunc F args).run P w = .ok (.enter F args) w := by
  have h1 : ¬ fn.name = "runtime.NumGoroutine" := by simpa using hname
  have h2 : ¬ fn.body = none := by intro e; rw [e] at hb; cases hb
  simp [callFunc, hf, h1, h2]

set_option maxRecDepth 100000 in
set_option maxHeartbeats 1000000 in
theorem indexFuncSS_any (A : Option Addr) (c : Nat) (vs : List Value) (F : FuncId) (cap : Array Value) (p : Nat → Bool) (w : World) (hn : vs.length ≤ 16777216) (hA : Cells w A vs)
    (hF : ∀ (args : Array Value) (w : World), (callFunc F args).run Tryz.prog w = .ok (.enter F args) w)
    (hform : ∀ (k : Nat) (u : Value), vs[k]? = some u → ∃ B m d, u = .slice B m d)
    (hcall : ∀ (k : Nat) (u : Value) (W : World), vs[k]? = some u → Below w.heap.size w W → Calls Tryz.prog F (#[u] ++ cap) W fun e W' => e = .returned (.bool (p k)) ∧ Below W.heap.size W W') :
    Calls Tryz.prog 125 #[.slice A vs.length c, .func (.func F) #[] cap] w fun e w' => e = .returned (.int .i64 (idxR vs.length p)) ∧ Below w.heap.size w w' := by
  have HC := Lib.hid hcall
  clear hcall
  go_enter Tryz.func125, Tryz.ntmps125
  go_wp2_with fail
  go_loopw [8] (fun i wr => ∃ k : Nat, k ≤ vs.length ∧ i = .int .i64 k ∧ (∀ j, j < k → p j = false) ∧ Below w.heap.size w wr)
    (fun i _ => vs.length - (intOf i).toNat)
  case atStart => exact ⟨0, Nat.zero_le _, rfl, fun j hj => by omega, Below.refl _ _⟩
  case round =>
    obtain ⟨k, hk, rfl, hall, hbel⟩ := hrel
    have HALL := Lib.hid hall
    clear hall
    by_cases hlt : k < vs.length
    · obtain ⟨b, o, rfl, hc⟩ := (hA.below hbel).at_ hlt
      have hck := hc k _ (List.getElem?_eq_getElem hlt)
      have H := Lib.hid (HC.out k _ wr (List.getElem?_eq_getElem hlt) hbel)
      have HB := Lib.hid hbel
      clear hc hA hbel
      obtain ⟨B, m, d, e⟩ := hform k _ (List.getElem?_eq_getElem hlt)
      rw [e] at hck H
      clear e hform
      cases hp : p k
      · have HN := Lib.hid (none_next HALL.out hp)
        rw [hp] at H
        clear hp
        go_wp2_with ((with_reducible refine H.out.mono ?_); rintro e w1 ⟨rfl, hb1⟩)
        go_roundw
        case rel => exact ⟨k + 1, by omega, by go_num, HN.out, HB.out.trans (hb1.mono HB.out.size)⟩
        case measure => simp [intOf]; omega
      · have HE := Lib.hid (idxR_some hlt HALL.out hp)
        rw [hp] at H
        clear hp
        go_wp2_with ((with_reducible refine H.out.mono ?_); rintro e w1 ⟨rfl, hb1⟩)
        go_ret
        exact ⟨by rw [HE.out]; rfl, HB.out.trans (hb1.mono HB.out.size)⟩
    · obtain rfl : k = vs.length := by omega
      have HE := Lib.hid (idxR_none HALL.out)
      go_wp2
      go_ret
      exact ⟨by rw [HE.out]; rfl, hbel⟩

set_option maxHeartbeats 1000000 in
theorem containsFuncSS_any (A : Option Addr) (c : Nat) (vs : List Value) (F : FuncId) (cap : Array Value) (p : Nat → Bool) (w : World) (hn : vs.length ≤ 16777216) (hA : Cells w A vs)
    (hF : ∀ (args : Array Value) (w : World), (callFunc F args).run Tryz.prog w = .ok (.enter F args) w)
    (hform : ∀ (k : Nat) (u : Value), vs[k]? = some u → ∃ B m d, u = .slice B m d)
    (hcall : ∀ (k : Nat) (u : Value) (W : World), vs[k]? = some u → Below w.heap.size w W → Calls Tryz.prog F (#[u] ++ cap) W fun e W' => e = .returned (.bool (p k)) ∧ Below W.heap.size W W') :
    Calls Tryz.prog 120 #[.slice A vs.length c, .func (.func F) #[] cap] w fun e w' => e = .returned (.bool (anyR vs.length p)) ∧ Below w.heap.size w w' := by
  have H := Lib.hid (indexFuncSS_any A c vs F cap p w hn hA hF hform hcall)
  have HI := Lib.hid (idxR_any vs.length p)
  clear hF hform hcall hA
  go_enter Tryz.func120, Tryz.ntmps120
  go_wp2_with ((with_reducible refine H.out.mono ?_); rintro e w1 ⟨rfl, hb1⟩)
  go_ret
  exact ⟨by rw [← HI.out]; rfl, hb1⟩

end Go.Proofs.YtdgnhfhaaghoaaaGreatDoor
