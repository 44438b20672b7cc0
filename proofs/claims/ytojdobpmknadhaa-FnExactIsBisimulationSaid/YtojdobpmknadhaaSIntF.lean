/- slices.Min, slices.IndexFunc and slices.ContainsFunc over ints: library walked, for a closure that is known by its contract. -/
import Derived.Test.YtojdobpmknadhaaProg
import Derived.Test.YtojdobpmknadhaaHas
import Derived.Test.YtojdobpmknadhaaIdx
set_option linter.unusedVariables false
namespace Go.Proofs.Ytojdobpmknadhaa
open Go.RowKit

theorem int_getD {xs : List Int} {k : Nat} (h : k < xs.length) : xs.getD k 0 = xs[k] := by simp [List.getD, h]

set_option maxRecDepth 100000 in
set_option maxHeartbeats 1000000 in
theorem indexFuncI_any (A : Option Addr) (c : Nat) (xs : List Int) (F : FuncId) (cap : Array Value) (p : Nat → Bool) (w : World) (hn : xs.length ≤ 16777216) (hA : Cells w A (ints xs))
    (hF : ∀ (args : Array Value) (w : World), (callFunc F args).run Try.prog w = .ok (.enter F args) w)
    (hcall : ∀ (k : Nat) (W : World), k < xs.length → Below w.heap.size w W → Calls Try.prog F (#[.int .i64 (xs.getD k 0)] ++ cap) W fun e W' => e = .returned (.bool (p k)) ∧ Below W.heap.size W W') :
    Calls Try.prog 95 #[.slice A xs.length c, .func (.func F) #[] cap] w fun e w' => e = .returned (.int .i64 (idxR xs.length p)) ∧ Below w.heap.size w w' := by
  have HC := Lib.hid hcall
  clear hcall
  go_enter Try.func95, Try.ntmps95
  go_wp2_with fail
  go_loopw [8] (fun i wr => ∃ k : Nat, k ≤ xs.length ∧ i = .int .i64 k ∧ (∀ j, j < k → p j = false) ∧ Below w.heap.size w wr)
    (fun i _ => xs.length - (intOf i).toNat)
  case atStart => exact ⟨0, Nat.zero_le _, rfl, fun j hj => by omega, Below.refl _ _⟩
  case round =>
    obtain ⟨k, hk, rfl, hall, hbel⟩ := hrel
    have HALL := Lib.hid hall
    clear hall
    by_cases hlt : k < xs.length
    · obtain ⟨b, o, rfl, hc⟩ := (hA.below hbel).int hlt
      have hck := hc k hlt
      have H := Lib.hid (HC.out k wr hlt hbel)
      have HB := Lib.hid hbel
      clear hc hA hbel
      generalize xs.getD k 0 = x at *
      cases hp : p k
      · have HN := Lib.hid (none_next HALL.out hp)
        rw [hp] at H
        clear hp
        go_wp2_with ((with_reducible refine H.out.mono ?_); rintro e w1 ⟨rfl, hb1⟩)
        go_roundw
        case rel => exact ⟨k + 1, by omega, by go_num, HN.out, HB.out.trans (hb1.mono HB.out.size)⟩
        case measure => simp [intOf]; omega
      · have HE := Lib.hid (idxR_some hlt HALL.out hp)
        rw [hp] at H
        clear hp
        go_wp2_with ((with_reducible refine H.out.mono ?_); rintro e w1 ⟨rfl, hb1⟩)
        go_ret
        exact ⟨by rw [HE.out]; rfl, HB.out.trans (hb1.mono HB.out.size)⟩
    · obtain rfl : k = xs.length := by omega
      have HE := Lib.hid (idxR_none HALL.out)
      go_wp2
      go_ret
      exact ⟨by rw [HE.out]; rfl, hbel⟩

set_option maxHeartbeats 1000000 in
theorem containsFuncI_any (A : Option Addr) (c : Nat) (xs : List Int) (F : FuncId) (cap : Array Value) (p : Nat → Bool) (w : World) (hn : xs.length ≤ 16777216) (hA : Cells w A (ints xs))
    (hF : ∀ (args : Array Value) (w : World), (callFunc F args).run Try.prog w = .ok (.enter F args) w)
    (hcall : ∀ (k : Nat) (W : World), k < xs.length → Below w.heap.size w W → Calls Try.prog F (#[.int .i64 (xs.getD k 0)] ++ cap) W fun e W' => e = .returned (.bool (p k)) ∧ Below W.heap.size W W') :
    Calls Try.prog 76 #[.slice A xs.length c, .func (.func F) #[] cap] w fun e w' => e = .returned (.bool (anyR xs.length p)) ∧ Below w.heap.size w w' := by
  have H := Lib.hid (indexFuncI_any A c xs F cap p w hn hA hF hcall)
  have HI := Lib.hid (idxR_any xs.length p)
  clear hF hcall hA
  go_enter Try.func76, Try.ntmps76
  go_wp2_with ((with_reducible refine H.out.mono ?_); rintro e w1 ⟨rfl, hb1⟩)
  go_ret
  exact ⟨by rw [← HI.out]; rfl, hb1⟩

/-- What slices.Min answers: a number of the list, and none is less. -/
def LeastI (xs : List Int) (n : Nat) (m : Int) : Prop := (∀ j, j < n → m ≤ xs.getD j 0) ∧ ∃ j, j < n ∧ m = xs.getD j 0
theorem least_next {xs : List Int} {k : Nat} {m : Int} (h : LeastI xs k m) : LeastI xs (k + 1) (min m (xs.getD k 0)) := by
  obtain ⟨h1, j, hj, e⟩ := h
  constructor
  · intro i hi
    by_cases hik : i = k
    · subst hik; omega
    · have := h1 i (by omega); omega
  · by_cases hm : m ≤ xs.getD k 0
    · exact ⟨j, by omega, by omega⟩
    · exact ⟨k, by omega, by omega⟩

theorem least_one (xs : List Int) : LeastI xs 1 (xs.getD 0 0) := by
  refine ⟨fun j hj => ?_, 0, by omega, rfl⟩
  obtain rfl : j = 0 := by omega
  exact Int.le_refl _

end Go.Proofs.Ytojdobpmknadhaa
