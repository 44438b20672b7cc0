/- slices.IndexFunc and slices.ContainsFunc at strings: library walked. -/
import Derived.Test.YtijkdpdmclkmlaaGreatDoorProg
import Derived.Test.YtijkdpdmclkmlaaGreatDoorJ6
import Derived.Test.YtijkdpdmclkmlaaGreatDoorJ12
set_option linter.unusedSimpArgs false
set_option linter.unusedVariables false
set_option maxRecDepth 100000
set_option maxHeartbeats 16000000
namespace Go.Proofs.YtijkdpdmclkmlaaGreatDoor
open Go.RowKit
set_option maxRecDepth 100000 in
set_option maxHeartbeats 1000000 in
theorem indexFuncGS_any (A : Option Addr) (c : Nat) (l : List ByteArray) (F : FuncId) (cap : Array Value) (p : Nat → Bool) (w : World) (hn : l.length ≤ 16777216) (hv : Cells w A (strs l))
    (hF : ∀ (args : Array Value) (w : World), (callFunc F args).run Tryz.prog w = .ok (.enter F args) w)
    (hcall : ∀ (k : Nat) (x : ByteArray) (W : World), l[k]? = some x → Below w.heap.size w W → Calls Tryz.prog F (#[.string x] ++ cap) W fun e W' => e = .returned (.bool (p k)) ∧ Below W.heap.size W W') :
    Calls Tryz.prog 197 #[.slice A l.length c, .func (.func F) #[] cap] w fun e w' => e = .returned (.int .i64 (idxR l.length p)) ∧ Below w.heap.size w w' := by
  have HC := Lib.hid hcall
  have HV := Lib.hid (show ∀ W, Below w.heap.size w W → Cells W A (strs l) from fun W hb => hv.below hb)
  skip
  clear hcall hv
  go_enter Tryz.func197, Tryz.ntmps197
  go_wp2_with fail
  go_loopw [8] (fun i wr => ∃ k : Nat, k ≤ l.length ∧ i = .int .i64 k ∧ (∀ j, j < k → p j = false) ∧ Below w.heap.size w wr)
    (fun i _ => l.length - (intOf i).toNat)
  case atStart => exact ⟨0, Nat.zero_le _, rfl, fun j hj => by omega, Below.refl _ _⟩
  obtain ⟨k, hk, rfl, hall, hbel⟩ := hrel
  have HALL := Lib.hid hall
  clear hall
  by_cases hlt : k < l.length
  · obtain ⟨b, o, ev, kk⟩ := (HV.out wr hbel).str hlt
    have k0 := kk k hlt
    clear kk
    subst ev
    have hx0 : l[k]? = some (l.getD k default) := by simp [List.getD, hlt]
    have H := Lib.hid (HC.out k _ wr hx0 hbel)
    clear hx0
    obtain ⟨x, hx⟩ : ∃ x, x = l.getD k default := ⟨_, rfl⟩
    rw [← hx] at k0 H
    clear hx
    have HB := Lib.hid hbel
    clear hbel
    cases hp : p k
    · have HN := Lib.hid (none_next HALL.out hp)
      rw [hp] at H
      clear hp
      go_wp2_with ((with_reducible refine H.out.mono ?_); rintro e w1 ⟨rfl, hb1⟩)
      go_roundw
      case rel => exact ⟨k + 1, by omega, by go_num, HN.out, HB.out.trans (hb1.mono HB.out.size)⟩
      case measure => simp [intOf]; omega
    have HE := Lib.hid (idxR_some hlt HALL.out hp)
    rw [hp] at H
    clear hp
    go_wp2_with ((with_reducible refine H.out.mono ?_); rintro e w1 ⟨rfl, hb1⟩)
    go_ret
    exact ⟨by rw [HE.out]; rfl, HB.out.trans (hb1.mono HB.out.size)⟩
  obtain rfl : k = l.length := by omega
  have HE := Lib.hid (idxR_none HALL.out)
  go_wp2
  go_ret
  exact ⟨by rw [HE.out]; rfl, hbel⟩

set_option maxHeartbeats 1000000 in
theorem containsFuncGS_any (A : Option Addr) (c : Nat) (l : List ByteArray) (F : FuncId) (cap : Array Value) (p : Nat → Bool) (w : World) (hn : l.length ≤ 16777216) (hv : Cells w A (strs l))
    (hF : ∀ (args : Array Value) (w : World), (callFunc F args).run Tryz.prog w = .ok (.enter F args) w)
    (hcall : ∀ (k : Nat) (x : ByteArray) (W : World), l[k]? = some x → Below w.heap.size w W → Calls Tryz.prog F (#[.string x] ++ cap) W fun e W' => e = .returned (.bool (p k)) ∧ Below W.heap.size W W') :
    Calls Tryz.prog 117 #[.slice A l.length c, .func (.func F) #[] cap] w fun e w' => e = .returned (.bool (anyR l.length p)) ∧ Below w.heap.size w w' := by
  have H := Lib.hid (indexFuncGS_any A c l F cap p w hn hv hF hcall)
  have HI := Lib.hid (idxR_any l.length p)
  skip
  clear hF hcall hv
  go_enter Tryz.func117, Tryz.ntmps117
  go_wp2_with ((with_reducible refine H.out.mono ?_); rintro e w1 ⟨rfl, hb1⟩)
  go_ret
  exact ⟨by rw [← HI.out]; rfl, hb1⟩

end Go.Proofs.YtijkdpdmclkmlaaGreatDoor
