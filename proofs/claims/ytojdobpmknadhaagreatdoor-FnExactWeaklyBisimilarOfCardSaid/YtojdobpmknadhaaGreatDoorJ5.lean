/- The walks of the two functions that find the end of a formula: program and reference. Conditions: the slice's cells are readable. The walks of the two functions that ask whether numbers are strictly ascending, and of slices.IndexFunc, slices.ContainsFunc at a quiet closure. -/
import Derived.Test.YtojdobpmknadhaaGreatDoorProg
import Derived.WalkKit
import Derived.WalkSpells
import Derived.WalkLawsBesides
import Derived.Lib.Hide
import Derived.BigQuiet
import Derived.Deep.QuietTactic
import Derived.Test.YtojdobpmknadhaaGreatDoorJ4
set_option linter.unusedVariables false
namespace Go.Proofs.YtojdobpmknadhaaGreatDoor
open Go.RowKit

def inB (n lo hi : Int) : Bool := decide (lo ≤ n) && decide (n ≤ hi)

theorem inB_true {n lo hi : Int} (h : inB n lo hi = true) : lo ≤ n ∧ n ≤ hi := by simpa [inB] using h
theorem inB_false {n lo hi : Int} (h : inB n lo hi = false) : ¬ (lo ≤ n ∧ n ≤ hi) := by
  intro k; simp [inB, k.1, k.2] at h

set_option maxHeartbeats 400000 in
theorem within_any (n lo hi : Int) (w : World) :
    Calls Tryz.prog 60 #[.int .i64 n, .int .i64 lo, .int .i64 hi] w fun e w' => e = .returned (.bool (inB n lo hi)) ∧ w = w' := by
  unfold inB
  go_enter Tryz.func60, Tryz.ntmps60
  go_wp2
  all_goals go_ret
  all_goals exact ⟨by simp [*]; try omega, rfl⟩

set_option maxHeartbeats 400000 in
theorem l1In_any (n lo hi : Int) (w : World) :
    Calls Tryz.prog 50 #[.int .i64 n, .int .i64 lo, .int .i64 hi] w fun e w' => e = .returned (.bool (inB n lo hi)) ∧ w = w' := by
  unfold inB
  go_enter Tryz.func50, Tryz.ntmps50
  go_wp2
  all_goals go_ret
  all_goals exact ⟨by simp [*]; try omega, rfl⟩

/-- A slice of ints that reads as a list: nil too. -/
def Ints (w : World) (A : Option Addr) (xs : List Int) : Prop :=
  ∀ j, j < xs.length → ∃ b o, A = some ⟨b, o, none⟩ ∧ w.cell? ⟨b, o + j, none⟩ = some (.int .i64 (xs.getD j 0))

/-- The place behind the formula at a place. -/
def fEnd : Nat → List Int → Int → Int
  | 0, _, _ => -1
  | n + 1, f, p =>
    if p < 0 ∨ (f.length : Int) ≤ p then -1
    else if f.getD p.toNat 0 == 0 then p + 1
    else if f.getD p.toNat 0 == 1 then (if decide (p + 1 < f.length) && inB (f.getD (p + 1).toNat 0) 0 7 then p + 2 else -1)
    else if f.getD p.toNat 0 == 2 then fEnd n f (p + 1)
    else if f.getD p.toNat 0 == 3 then fEnd n f (fEnd n f (p + 1))
    else if f.getD p.toNat 0 == 4 then (if decide (p + 1 < f.length) && inB (f.getD (p + 1).toNat 0) 0 7 then fEnd n f (p + 2) else -1)
    else -1

theorem fEnd_neg (n : Nat) (f : List Int) (p : Int) (h : p < 0) : fEnd n f p = -1 := by
  cases n with
  | zero => rfl
  | succ n => unfold fEnd; rw [if_pos (.inl h)]

theorem fEnd_bd (n : Nat) (f : List Int) : ∀ p, fEnd n f p = -1 ∨ (p < fEnd n f p ∧ fEnd n f p ≤ f.length) := by
  induction n with
  | zero => intro p; exact .inl rfl
  | succ n ih =>
    intro p
    unfold fEnd
    have h1 := ih (p + 1)
    have h2 := ih (fEnd n f (p + 1))
    have h3 := ih (p + 2)
    split
    · exact .inl rfl
    · split
      · right; omega
      · split
        · split
          · rename_i hh
            simp only [Bool.and_eq_true, decide_eq_true_eq] at hh
            right; omega
          · exact .inl rfl
        · split
          · omega
          · split
            · rcases h1 with h1 | h1
              · left; exact fEnd_neg n f _ (by omega)
              · omega
            · split
              · split
                · omega
                · exact .inl rfl
              · exact .inl rfl

theorem fEnd_eq (n : Nat) (f : List Int) (k : Nat) (hk : k < f.length) : fEnd (n + 1) f k =
    if f.getD k 0 == 0 then (k : Int) + 1
    else if f.getD k 0 == 1 then (if decide ((k : Int) + 1 < f.length) && inB (f.getD (k + 1) 0) 0 7 then (k : Int) + 2 else -1)
    else if f.getD k 0 == 2 then fEnd n f ((k : Int) + 1)
    else if f.getD k 0 == 3 then fEnd n f (fEnd n f ((k : Int) + 1))
    else if f.getD k 0 == 4 then (if decide ((k : Int) + 1 < f.length) && inB (f.getD (k + 1) 0) 0 7 then fEnd n f ((k : Int) + 2) else -1)
    else -1 := by
  rw [fEnd, if_neg (by omega)]
  rw [show ((k : Int) + 1).toNat = k + 1 by omega, Int.toNat_natCast]

end Go.Proofs.YtojdobpmknadhaaGreatDoor

set_option linter.unusedVariables false
namespace Go.Proofs.YtojdobpmknadhaaGreatDoor
open Go.RowKit

def allR (n : Nat) (p : Nat → Bool) : Bool := (List.range n).all p
theorem allR_true {n : Nat} {p : Nat → Bool} (h : ∀ j, j < n → p j = true) : allR n p = true := by
  unfold allR; rw [List.all_eq_true]; intro x hx; exact h x (List.mem_range.1 hx)
theorem allR_false {n k : Nat} {p : Nat → Bool} (hk : k < n) (h : p k = false) : allR n p = false := by
  unfold allR; rw [Bool.eq_false_iff]; intro hh; rw [List.all_eq_true] at hh; have := hh k (List.mem_range.2 hk); rw [h] at this; cases this
theorem all_next {p : Nat → Bool} {k : Nat} (h : ∀ j, j < k → p j = true) (hk : p k = true) : ∀ j, j < k + 1 → p j = true := by
  intro j hj
  rcases Nat.lt_succ_iff_lt_or_eq.1 hj with h' | h'
  · exact h j h'
  · rw [h']; exact hk

theorem l1In_q (n lo hi : Int) (w : World) :
    Calls Tryz.prog 50 #[.int .i64 n, .int .i64 lo, .int .i64 hi] w fun e w' => e = .returned (.bool (inB n lo hi)) ∧ w' = w :=
  (l1In_any n lo hi w).mono fun _ _ ⟨a, b⟩ => ⟨a, b.symm⟩
theorem within_q (n lo hi : Int) (w : World) :
    Calls Tryz.prog 60 #[.int .i64 n, .int .i64 lo, .int .i64 hi] w fun e w' => e = .returned (.bool (inB n lo hi)) ∧ w' = w :=
  (within_any n lo hi w).mono fun _ _ ⟨a, b⟩ => ⟨a, b.symm⟩

/-- The number at k is in the range, and greater than the one before. -/
def riseAt (lo hi : Int) (l : List Int) (k : Nat) : Bool := inB (l.getD k 0) lo hi && (k == 0 || decide (l.getD (k - 1) 0 < l.getD k 0))
def rising (lo hi : Int) (l : List Int) : Bool := allR l.length (riseAt lo hi l)

set_option maxHeartbeats 1000000 in
theorem isRising_any (A : Option Addr) (c : Nat) (l : List Int) (below : Int) (w : World) (hn : l.length ≤ 16777216) (hb0 : 0 ≤ below) (hb1 : below ≤ 1048576) (hA : Cells w A (ints l)) :
    Calls Tryz.prog 64 #[.slice A l.length c, .int .i64 below] w fun e w' => e = .returned (.bool (rising 0 (below - 1) l)) ∧ w = w' := by
  go_enter Tryz.func64, Tryz.ntmps64
  go_wp2_with fail
  go_loop [9] (fun i => ∃ k : Nat, k ≤ l.length ∧ i = .int .i64 k ∧ ∀ j, j < k → riseAt 0 (below - 1) l j = true)
    (fun i => l.length - (intOf i).toNat)
  case atStart => exact ⟨0, Nat.zero_le _, rfl, fun j hj => by omega⟩
  case round =>
    obtain ⟨k, hk, rfl, hall⟩ := hrel
    have HALL := Lib.hid hall
    clear hall
    by_cases hlt : k < l.length
    · obtain ⟨b, o, rfl, hc⟩ := hA.int hlt
      have hck := hc k hlt
      have H := Lib.hid (within_any (l.getD k 0) 0 (below - 1) w)
      have HR : Hid (riseAt 0 (below - 1) l k = (inB (l.getD k 0) 0 (below - 1) && (k == 0 || decide (l.getD (k - 1) 0 < l.getD k 0)))) := rfl
      cases hin : inB (l.getD k 0) 0 (below - 1)
      · have HE := Lib.hid (allR_false (p := riseAt 0 (below - 1) l) hlt (by rw [HR.out, hin]; rfl))
        clear hc hA
        generalize l.getD k 0 = x at *
        go_wp2_with ((with_reducible refine H.out.mono ?_); rintro e w' ⟨rfl, rfl⟩)
        go_ret
        exact ⟨by unfold rising; rw [HE.out]; rfl, rfl⟩
      · cases k with
        | zero =>
          have hr : riseAt 0 (below - 1) l 0 = true := by rw [HR.out, hin]; rfl
          rw [Nat.add_zero] at hck
          have HT := Lib.hid (all_next HALL.out hr)
          clear hc hA hr
          generalize l.getD 0 0 = x at *
          go_wp2_with ((with_reducible refine H.out.mono ?_); rintro e w' ⟨rfl, rfl⟩)
          go_round
          case rel => exact ⟨0 + 1, by omega, by go_num, HT.out⟩
          case measure => simp [intOf]; omega
        | succ m =>
          have hcm := hc m (by omega)
          have hr : riseAt 0 (below - 1) l (m + 1) = decide (l.getD m 0 < l.getD (m + 1) 0) := by rw [HR.out, hin]; simp
          by_cases hle : l.getD (m + 1) 0 ≤ l.getD m 0
          · have HE := Lib.hid (allR_false (p := riseAt 0 (below - 1) l) hlt (by rw [hr]; simpa using hle))
            clear hc hA hr
            generalize l.getD (m + 1) 0 = x at *
            generalize l.getD m 0 = y at *
            go_wp2_with ((with_reducible refine H.out.mono ?_); rintro e w' ⟨rfl, rfl⟩)
            go_ret
            exact ⟨by unfold rising; rw [HE.out]; rfl, rfl⟩
          · have hr' : riseAt 0 (below - 1) l (m + 1) = true := by rw [hr]; rw [decide_eq_true_iff]; omega
            have HT := Lib.hid (all_next HALL.out hr')
            clear hc hA hr hr'
            generalize l.getD (m + 1) 0 = x at *
            generalize l.getD m 0 = y at *
            go_wp2_with ((with_reducible refine H.out.mono ?_); rintro e w' ⟨rfl, rfl⟩)
            go_round
            case rel => exact ⟨m + 1 + 1, by omega, by go_num, HT.out⟩
            case measure => simp [intOf]; omega
    · obtain rfl : k = l.length := by omega
      have HE := Lib.hid (allR_true HALL.out)
      go_wp2
      go_ret
      exact ⟨by unfold rising; rw [HE.out]; rfl, rfl⟩

set_option maxHeartbeats 1000000 in
theorem l1Rising_any (A : Option Addr) (c : Nat) (l : List Int) (lo hi : Int) (w : World) (hn : l.length ≤ 16777216) (hA : Cells w A (ints l)) :
    Calls Tryz.prog 77 #[.slice A l.length c, .int .i64 lo, .int .i64 hi] w fun e w' => e = .returned (.bool (rising lo hi l)) ∧ Below w.heap.size w w' := by
  go_enter Tryz.func77, Tryz.ntmps77
  go_wp2_with fail
  go_loopw [7] (fun i wr => ∃ k : Nat, k ≤ l.length ∧ i = .int .i64 k ∧ (∀ j, j < k → riseAt lo hi l j = true) ∧ Below w.heap.size w wr)
    (fun i _ => l.length - (intOf i).toNat)
  case atStart => exact ⟨0, Nat.zero_le _, rfl, fun j hj => by omega, Below.refl _ _⟩
  case round =>
    obtain ⟨k, hk, rfl, hall, hbel⟩ := hrel
    have HALL := Lib.hid hall
    clear hall
    by_cases hlt : k < l.length
    · obtain ⟨b, o, rfl, hc⟩ := (hA.below hbel).int hlt
      have hck := hc k hlt
      have H := Lib.hid (fun n => l1In_q (l.getD k 0) lo hi (wr.drewN n))
      have b0 : (0 : Int) ≤ (k : Int) := by omega
      have b1 : (k : Int) < (l.length : Int) := by omega
      have HR : Hid (riseAt lo hi l k = (inB (l.getD k 0) lo hi && (k == 0 || decide (l.getD (k - 1) 0 < l.getD k 0)))) := rfl
      cases hin : inB (l.getD k 0) lo hi
      · have HE := Lib.hid (allR_false (p := riseAt lo hi l) hlt (by rw [HR.out, hin]; rfl))
        clear hc hA
        generalize l.getD k 0 = x at *
        go_wp2_with fail
        go_quiet ((go_at_call 50; exact Calls.quiet_of_same (H.out _)))
        go_wp2
        go_ret
        exact ⟨by unfold rising; rw [HE.out]; rfl, below_drewN' hbel _⟩
      · cases k with
        | zero =>
          have hr : riseAt lo hi l 0 = true := by rw [HR.out, hin]; rfl
          rw [Nat.add_zero] at hck
          have HT := Lib.hid (all_next HALL.out hr)
          clear hc hA hr
          generalize l.getD 0 0 = x at *
          go_wp2_with fail
          go_quiet ((go_at_call 50; exact Calls.quiet_of_same (H.out _)))
          go_wp2
          go_roundw
          case rel => exact ⟨0 + 1, by omega, by go_num, HT.out, below_drewN' hbel _⟩
          case measure => simp [intOf]; omega
        | succ m =>
          have hcm := hc m (by omega)
          have hr : riseAt lo hi l (m + 1) = decide (l.getD m 0 < l.getD (m + 1) 0) := by rw [HR.out, hin]; simp
          by_cases hle : l.getD (m + 1) 0 ≤ l.getD m 0
          · have HE := Lib.hid (allR_false (p := riseAt lo hi l) hlt (by rw [hr]; simpa using hle))
            clear hc hA hr
            generalize l.getD (m + 1) 0 = x at *
            generalize l.getD m 0 = y at *
            go_wp2_with fail
            go_quiet ((go_at_call 50; exact Calls.quiet_of_same (H.out _)))
            go_wp2
            go_ret
            exact ⟨by unfold rising; rw [HE.out]; rfl, below_drewN' hbel _⟩
          · have hr' : riseAt lo hi l (m + 1) = true := by rw [hr]; rw [decide_eq_true_iff]; omega
            have HT := Lib.hid (all_next HALL.out hr')
            clear hc hA hr hr'
            generalize l.getD (m + 1) 0 = x at *
            generalize l.getD m 0 = y at *
            go_wp2_with fail
            go_quiet ((go_at_call 50; exact Calls.quiet_of_same (H.out _)))
            go_wp2
            go_roundw
            case rel => exact ⟨m + 1 + 1, by omega, by go_num, HT.out, below_drewN' hbel _⟩
            case measure => simp [intOf]; omega
    · obtain rfl : k = l.length := by omega
      have HE := Lib.hid (allR_true HALL.out)
      go_wp2
      go_ret
      exact ⟨by unfold rising; rw [HE.out]; rfl, hbel⟩

end Go.Proofs.YtojdobpmknadhaaGreatDoor
