/- The walks of the two functions that ask whether numbers are strictly ascending, and of slices.IndexFunc, slices.ContainsFunc at a quiet closure. slices.IndexFunc and slices.ContainsFunc: what they answer, for a closure that is known by its contract. -/
import Derived.Test.YtdgnhfhaaghoaaaGreatDoorProg
import Derived.Test.YtdgnhfhaaghoaaaGreatDoorJ10
import Derived.Test.YtdgnhfhaaghoaaaGreatDoorJ11
set_option linter.unusedSimpArgs false
set_option linter.unusedVariables false
namespace Go.Proofs.YtdgnhfhaaghoaaaGreatDoor
open Go.RowKit

def allR (n : Nat) (p : Nat → Bool) : Bool := (List.range n).all p
theorem allR_true {n : Nat} {p : Nat → Bool} (h : ∀ j, j < n → p j = true) : allR n p = true := by
  unfold allR; rw [List.all_eq_true]; intro x hx; exact h x (List.mem_range.1 hx)
theorem allR_false {n k : Nat} {p : Nat → Bool} (hk : k < n) (h : p k = false) : allR n p = false := by
  unfold allR; rw [Bool.eq_false_iff]; intro hh; rw [List.all_eq_true] at hh; have := hh k (List.mem_range.2 hk); rw [h] at this; cases this
theorem all_next {p : Nat → Bool} {k : Nat} (h : ∀ j, j < k → p j = true) (hk : p k = true) : ∀ j, j < k + 1 → p j = true := by
  intro j hj
  rcases Nat.lt_succ_iff_lt_or_eq.1 hj with h' | h'
  · exact h j h'
  · rw [h']; exact hk

theorem l1In_q (n lo hi : Int) (w : World) :
    Calls Tryz.prog 112 #[.int .i64 n, .int .i64 lo, .int .i64 hi] w fun e w' => e = .returned (.bool (inB n lo hi)) ∧ w' = w :=
  (l1In_any n lo hi w).mono fun _ _ ⟨a, b⟩ => ⟨a, b.symm⟩
theorem within_q (n lo hi : Int) (w : World) :
    Calls Tryz.prog 75 #[.int .i64 n, .int .i64 lo, .int .i64 hi] w fun e w' => e = .returned (.bool (inB n lo hi)) ∧ w' = w :=
  (within_any n lo hi w).mono fun _ _ ⟨a, b⟩ => ⟨a, b.symm⟩

/-- The number at k is in the range, and greater than the one before. -/
def riseAt (lo hi : Int) (l : List Int) (k : Nat) : Bool := inB (l.getD k 0) lo hi && (k == 0 || decide (l.getD (k - 1) 0 < l.getD k 0))
def rising (lo hi : Int) (l : List Int) : Bool := allR l.length (riseAt lo hi l)

set_option maxHeartbeats 1000000 in
theorem isRising_any (A : Option Addr) (c : Nat) (l : List Int) (below : Int) (w : World) (hn : l.length ≤ 16777216) (hb0 : 0 ≤ below) (hb1 : below ≤ 1048576) (hA : Cells w A (ints l)) :
    Calls Tryz.prog 122 #[.slice A l.length c, .int .i64 below] w fun e w' => e = .returned (.bool (rising 0 (below - 1) l)) ∧ w = w' := by
  go_enter Tryz.func122, Tryz.ntmps122
  go_wp2_with fail
  go_loop [9] (fun i => ∃ k : Nat, k ≤ l.length ∧ i = .int .i64 k ∧ ∀ j, j < k → riseAt 0 (below - 1) l j = true)
    (fun i => l.length - (intOf i).toNat)
  case atStart => exact ⟨0, Nat.zero_le _, rfl, fun j hj => by omega⟩
  case round =>
    obtain ⟨k, hk, rfl, hall⟩ := hrel
    have HALL := Lib.hid hall
    clear hall
    by_cases hlt : k < l.length
    · obtain ⟨b, o, rfl, hc⟩ := hA.int hlt
      have hck := hc k hlt
      have H := Lib.hid (within_any (l.getD k 0) 0 (below - 1) w)
      have HR : Hid (riseAt 0 (below - 1) l k = (inB (l.getD k 0) 0 (below - 1) && (k == 0 || decide (l.getD (k - 1) 0 < l.getD k 0)))) := rfl
      cases hin : inB (l.getD k 0) 0 (below - 1)
      · have HE := Lib.hid (allR_false (p := riseAt 0 (below - 1) l) hlt (by rw [HR.out, hin]; rfl))
        clear hc hA
        generalize l.getD k 0 = x at *
        go_wp2_with ((with_reducible refine H.out.mono ?_); rintro e w' ⟨rfl, rfl⟩)
        go_ret
        exact ⟨by unfold rising; rw [HE.out]; rfl, rfl⟩
      · cases k with
        | zero =>
          have hr : riseAt 0 (below - 1) l 0 = true := by rw [HR.out, hin]; rfl
          rw [Nat.add_zero] at hck
          have HT := Lib.hid (all_next HALL.out hr)
          clear hc hA hr
          generalize l.getD 0 0 = x at *
          go_wp2_with ((with_reducible refine H.out.mono ?_); rintro e w' ⟨rfl, rfl⟩)
          go_round
          case rel => exact ⟨0 + 1, by omega, by go_num, HT.out⟩
          case measure => simp [intOf]; omega
        | succ m =>
          have hcm := hc m (by omega)
          have hr : riseAt 0 (below - 1) l (m + 1) = decide (l.getD m 0 < l.getD (m + 1) 0) := by rw [HR.out, hin]; simp
          by_cases hle : l.getD (m + 1) 0 ≤ l.getD m 0
          · have HE := Lib.hid (allR_false (p := riseAt 0 (below - 1) l) hlt (by rw [hr]; simpa using hle))
            clear hc hA hr
            generalize l.getD (m + 1) 0 = x at *
            generalize l.getD m 0 = y at *
            go_wp2_with ((with_reducible refine H.out.mono ?_); rintro e w' ⟨rfl, rfl⟩)
            go_ret
            exact ⟨by unfold rising; rw [HE.out]; rfl, rfl⟩
          · have hr' : riseAt 0 (below - 1) l (m + 1) = true := by rw [hr]; rw [decide_eq_true_iff]; omega
            have HT := Lib.hid (all_next HALL.out hr')
            clear hc hA hr hr'
            generalize l.getD (m + 1) 0 = x at *
            generalize l.getD m 0 = y at *
            go_wp2_with ((with_reducible refine H.out.mono ?_); rintro e w' ⟨rfl, rfl⟩)
            go_round
            case rel => exact ⟨m + 1 + 1, by omega, by go_num, HT.out⟩
            case measure => simp [intOf]; omega
    · obtain rfl : k = l.length := by omega
      have HE := Lib.hid (allR_true HALL.out)
      go_wp2
      go_ret
      exact ⟨by unfold rising; rw [HE.out]; rfl, rfl⟩

set_option maxHeartbeats 1000000 in
theorem l1Rising_any (A : Option Addr) (c : Nat) (l : List Int) (lo hi : Int) (w : World) (hn : l.length ≤ 16777216) (hA : Cells w A (ints l)) :
    Calls Tryz.prog 149 #[.slice A l.length c, .int .i64 lo, .int .i64 hi] w fun e w' => e = .returned (.bool (rising lo hi l)) ∧ Below w.heap.size w w' := by
  go_enter Tryz.func149, Tryz.ntmps149
  go_wp2_with fail
  go_loopw [7] (fun i wr => ∃ k : Nat, k ≤ l.length ∧ i = .int .i64 k ∧ (∀ j, j < k → riseAt lo hi l j = true) ∧ Below w.heap.size w wr)
    (fun i _ => l.length - (intOf i).toNat)
  case atStart => exact ⟨0, Nat.zero_le _, rfl, fun j hj => by omega, Below.refl _ _⟩
  case round =>
    obtain ⟨k, hk, rfl, hall, hbel⟩ := hrel
    have HALL := Lib.hid hall
    clear hall
    by_cases hlt : k < l.length
    · obtain ⟨b, o, rfl, hc⟩ := (hA.below hbel).int hlt
      have hck := hc k hlt
      have H := Lib.hid (fun n => l1In_q (l.getD k 0) lo hi (wr.drewN n))
      have b0 : (0 : Int) ≤ (k : Int) := by omega
      have b1 : (k : Int) < (l.length : Int) := by omega
      have HR : Hid (riseAt lo hi l k = (inB (l.getD k 0) lo hi && (k == 0 || decide (l.getD (k - 1) 0 < l.getD k 0)))) := rfl
      cases hin : inB (l.getD k 0) lo hi
      · have HE := Lib.hid (allR_false (p := riseAt lo hi l) hlt (by rw [HR.out, hin]; rfl))
        clear hc hA
        generalize l.getD k 0 = x at *
        go_wp2_with fail
        go_quiet ((go_at_call 112; exact Calls.quiet_of_same (H.out _)))
        go_wp2
        go_ret
        exact ⟨by unfold rising; rw [HE.out]; rfl, below_drewN' hbel _⟩
      · cases k with
        | zero =>
          have hr : riseAt lo hi l 0 = true := by rw [HR.out, hin]; rfl
          rw [Nat.add_zero] at hck
          have HT := Lib.hid (all_next HALL.out hr)
          clear hc hA hr
          generalize l.getD 0 0 = x at *
          go_wp2_with fail
          go_quiet ((go_at_call 112; exact Calls.quiet_of_same (H.out _)))
          go_wp2
          go_roundw
          case rel => exact ⟨0 + 1, by omega, by go_num, HT.out, below_drewN' hbel _⟩
          case measure => simp [intOf]; omega
        | succ m =>
          have hcm := hc m (by omega)
          have hr : riseAt lo hi l (m + 1) = decide (l.getD m 0 < l.getD (m + 1) 0) := by rw [HR.out, hin]; simp
          by_cases hle : l.getD (m + 1) 0 ≤ l.getD m 0
          · have HE := Lib.hid (allR_false (p := riseAt lo hi l) hlt (by rw [hr]; simpa using hle))
            clear hc hA hr
            generalize l.getD (m + 1) 0 = x at *
            generalize l.getD m 0 = y at *
            go_wp2_with fail
            go_quiet ((go_at_call 112; exact Calls.quiet_of_same (H.out _)))
            go_wp2
            go_ret
            exact ⟨by unfold rising; rw [HE.out]; rfl, below_drewN' hbel _⟩
          · have hr' : riseAt lo hi l (m + 1) = true := by rw [hr]; rw [decide_eq_true_iff]; omega
            have HT := Lib.hid (all_next HALL.out hr')
            clear hc hA hr hr'
            generalize l.getD (m + 1) 0 = x at *
            generalize l.getD m 0 = y at *
            go_wp2_with fail
            go_quiet ((go_at_call 112; exact Calls.quiet_of_same (H.out _)))
            go_wp2
            go_roundw
            case rel => exact ⟨m + 1 + 1, by omega, by go_num, HT.out, below_drewN' hbel _⟩
            case measure => simp [intOf]; omega
    · obtain rfl : k = l.length := by omega
      have HE := Lib.hid (allR_true HALL.out)
      go_wp2
      go_ret
      exact ⟨by unfold rising; rw [HE.out]; rfl, hbel⟩

end Go.Proofs.YtdgnhfhaaghoaaaGreatDoor

set_option linter.unusedVariables false
namespace Go.Proofs.YtdgnhfhaaghoaaaGreatDoor
open Go.RowKit

/-- The first number below n for which p holds, -1 if there is none. -/
def idxR (n : Nat) (p : Nat → Bool) : Int := match (List.range n).find? p with | some k => (k : Int) | none => -1

theorem idxR_none {n : Nat} {p : Nat → Bool} (h : ∀ j, j < n → p j = false) : idxR n p = -1 := by
  have : (List.range n).find? p = none := by rw [List.find?_eq_none]; intro x hx; simp [h x (List.mem_range.1 hx)]
  unfold idxR; rw [this]
theorem idxR_some {n k : Nat} {p : Nat → Bool} (hk : k < n) (h : ∀ j, j < k → p j = false) (hp : p k = true) : idxR n p = (k : Int) := by
  have : (List.range n).find? p = some k := by
    rw [List.find?_range_eq_some]
    exact ⟨hp, List.mem_range.2 hk, fun j hj => by simp [h j hj]⟩
  unfold idxR; rw [this]
def anyR (n : Nat) (p : Nat → Bool) : Bool := (List.range n).any p
theorem idxR_any (n : Nat) (p : Nat → Bool) : decide (0 ≤ idxR n p) = anyR n p := by
  cases h : (List.range n).find? p with
  | none =>
    have h1 : idxR n p = -1 := by unfold idxR; rw [h]
    have h2 : anyR n p = false := by
      unfold anyR
      rw [List.any_eq_false]
      intro x hx
      exact List.find?_eq_none.1 h x hx
    rw [h1, h2]; rfl
  | some k =>
    have h1 : idxR n p = (k : Int) := by unfold idxR; rw [h]
    have h2 : anyR n p = true := by
      unfold anyR
      rw [List.any_eq_true]
      exact ⟨k, List.mem_of_find?_eq_some h, List.find?_some h⟩
    rw [h1, h2]; simp
theorem none_next {p : Nat → Bool} {k : Nat} (h : ∀ j, j < k → p j = false) (hk : p k = false) : ∀ j, j < k + 1 → p j = false := by
  intro j hj
  rcases Nat.lt_succ_iff_lt_or_eq.1 hj with h' | h'
  · exact h j h'
  · rw [h']; exact hk

theorem enter_of {P : Program} {F : FuncId} {fn : Func} (hf : P.funcs[F]? = some fn) (hname : (fn.name == "runtime.NumGoroutine") = false) (hb : fn.body.isNone = false) (args : Array Value) (w : World) :
    (callFunc F args).run P w = .ok (.enter F args) w := by
  have h1 : ¬ fn.name = "runtime.NumGoroutine" := by simpa using hname
  have h2 : ¬ fn.body = none := by intro e; rw [e] at hb; cases hb
  simp [callFunc, hf, h1, h2]

set_option maxRecDepth 100000 in
set_option maxHeartbeats 1000000 in
theorem indexFuncSS_any (A : Option Addr) (c : Nat) (vs : List Value) (F : FuncId) (cap : Array Value) (p : Nat → Bool) (w : World) (hn : vs.length ≤ 16777216) (hA : Cells w A vs)
    (hF : ∀ (args : Array Value) (w : World), (callFunc F args).run Tryz.prog w = .ok (.enter F args) w)
    (hform : ∀ (k : Nat) (u : Value), vs[k]? = some u → ∃ B m d, u = .slice B m d)
    (hcall : ∀ (k : Nat) (u : Value) (W : World), vs[k]? = some u → Below w.heap.size w W → Calls Tryz.prog F (#[u] ++ cap) W fun e W' => e = .returned (.bool (p k)) ∧ Below W.heap.size W W') :
    Calls Tryz.prog 125 #[.slice A vs.length c, .func (.func F) #[] cap] w fun e w' => e = .returned (.int .i64 (idxR vs.length p)) ∧ Below w.heap.size w w' := by
  have HC := Lib.hid hcall
  clear hcall
  go_enter Tryz.func125, Tryz.ntmps125
  go_wp2_with fail
  go_loopw [8] (fun i wr => ∃ k : Nat, k ≤ vs.length ∧ i = .int .i64 k ∧ (∀ j, j < k → p j = false) ∧ Below w.heap.size w wr)
    (fun i _ => vs.length - (intOf i).toNat)
  case atStart => exact ⟨0, Nat.zero_le _, rfl, fun j hj => by omega, Below.refl _ _⟩
  case round =>
    obtain ⟨k, hk, rfl, hall, hbel⟩ := hrel
    have HALL := Lib.hid hall
    clear hall
    by_cases hlt : k < vs.length
    · obtain ⟨b, o, rfl, hc⟩ := (hA.below hbel).at_ hlt
      have hck := hc k _ (List.getElem?_eq_getElem hlt)
      have H := Lib.hid (HC.out k _ wr (List.getElem?_eq_getElem hlt) hbel)
      have HB := Lib.hid hbel
      clear hc hA hbel
      obtain ⟨B, m, d, e⟩ := hform k _ (List.getElem?_eq_getElem hlt)
      rw [e] at hck H
      clear e hform
      cases hp : p k
      · have HN := Lib.hid (none_next HALL.out hp)
        rw [hp] at H
        clear hp
        go_wp2_with ((with_reducible refine H.out.mono ?_); rintro e w1 ⟨rfl, hb1⟩)
        go_roundw
        case rel => exact ⟨k + 1, by omega, by go_num, HN.out, HB.out.trans (hb1.mono HB.out.size)⟩
        case measure => simp [intOf]; omega
      · have HE := Lib.hid (idxR_some hlt HALL.out hp)
        rw [hp] at H
        clear hp
        go_wp2_with ((with_reducible refine H.out.mono ?_); rintro e w1 ⟨rfl, hb1⟩)
        go_ret
        exact ⟨by rw [HE.out]; rfl, HB.out.trans (hb1.mono HB.out.size)⟩
    · obtain rfl : k = vs.length := by omega
      have HE := Lib.hid (idxR_none HALL.out)
      go_wp2
      go_ret
      exact ⟨by rw [HE.out]; rfl, hbel⟩

set_option maxHeartbeats 1000000 in
theorem containsFuncSS_any (A : Option Addr) (c : Nat) (vs : List Value) (F : FuncId) (cap : Array Value) (p : Nat → Bool) (w : World) (hn : vs.length ≤ 16777216) (hA : Cells w A vs)
    (hF : ∀ (args : Array Value) (w : World), (callFunc F args).run Tryz.prog w = .ok (.enter F args) w)
    (hform : ∀ (k : Nat) (u : Value), vs[k]? = some u → ∃ B m d, u = .slice B m d)
    (hcall : ∀ (k : Nat) (u : Value) (W : World), vs[k]? = some u → Below w.heap.size w W → Calls Tryz.prog F (#[u] ++ cap) W fun e W' => e = .returned (.bool (p k)) ∧ Below W.heap.size W W') :
    Calls Tryz.prog 120 #[.slice A vs.length c, .func (.func F) #[] cap] w fun e w' => e = .returned (.bool (anyR vs.length p)) ∧ Below w.heap.size w w' := by
  have H := Lib.hid (indexFuncSS_any A c vs F cap p w hn hA hF hform hcall)
  have HI := Lib.hid (idxR_any vs.length p)
  clear hF hform hcall hA
  go_enter Tryz.func120, Tryz.ntmps120
  go_wp2_with ((with_reducible refine H.out.mono ?_); rintro e w1 ⟨rfl, hb1⟩)
  go_ret
  exact ⟨by rw [← HI.out]; rfl, hb1⟩

end Go.Proofs.YtdgnhfhaaghoaaaGreatDoor
