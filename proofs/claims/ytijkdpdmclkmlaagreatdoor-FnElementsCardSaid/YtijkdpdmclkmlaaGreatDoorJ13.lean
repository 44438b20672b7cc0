/- slices.IndexFunc and slices.ContainsFunc at numbers, wires and controls: library walked. -/
import Derived.Test.YtijkdpdmclkmlaaGreatDoorProg
import Derived.Test.YtijkdpdmclkmlaaGreatDoorJ6
set_option linter.unusedSimpArgs false
set_option linter.unusedVariables false
set_option maxRecDepth 100000
set_option maxHeartbeats 16000000
namespace Go.Proofs.YtijkdpdmclkmlaaGreatDoor
open Go.RowKit
theorem indexFuncGI_any (A : Option Addr) (c : Nat) (l : List Int) (F : FuncId) (cap : Array Value) (p : Nat → Bool) (w : World) (hn : l.length ≤ 16777216) (hv : Cells w A (ints l))
    (hF : ∀ (args : Array Value) (w : World), (callFunc F args).run Tryz.prog w = .ok (.enter F args) w)
    (hcall : ∀ (k : Nat) (x : Int) (W : World), l[k]? = some x → Below w.heap.size w W → Calls Tryz.prog F (#[.int .i64 x] ++ cap) W fun e W' => e = .returned (.bool (p k)) ∧ Below W.heap.size W W') :
    Calls Tryz.prog 202 #[.slice A l.length c, .func (.func F) #[] cap] w fun e w' => e = .returned (.int .i64 (idxR l.length p)) ∧ Below w.heap.size w w' := by
  have HC := Lib.hid hcall
  have HV := Lib.hid (show ∀ W, Below w.heap.size w W → Cells W A (ints l) from fun W hb => hv.below hb)
  skip
  clear hcall hv
  go_enter Tryz.func202, Tryz.ntmps202
  go_wp2_with fail
  go_loopw [8] (fun i wr => ∃ k : Nat, k ≤ l.length ∧ i = .int .i64 k ∧ (∀ j, j < k → p j = false) ∧ Below w.heap.size w wr)
    (fun i _ => l.length - (intOf i).toNat)
  case atStart => exact ⟨0, Nat.zero_le _, rfl, fun j hj => by omega, Below.refl _ _⟩
  obtain ⟨k, hk, rfl, hall, hbel⟩ := hrel
  have HALL := Lib.hid hall
  clear hall
  by_cases hlt : k < l.length
  · obtain ⟨b, o, ev, kk⟩ := (HV.out wr hbel).int hlt
    have k0 := kk k hlt
    clear kk
    subst ev
    have hx0 : l[k]? = some (l.getD k 0) := by simp [List.getD, hlt]
    have H := Lib.hid (HC.out k _ wr hx0 hbel)
    clear hx0
    obtain ⟨x, hx⟩ : ∃ x, x = l.getD k 0 := ⟨_, rfl⟩
    rw [← hx] at k0 H
    clear hx
    have HB := Lib.hid hbel
    clear hbel
    cases hp : p k
    · have HN := Lib.hid (none_next HALL.out hp)
      rw [hp] at H
      clear hp
      go_wp2_with ((with_reducible refine H.out.mono ?_); rintro e w1 ⟨rfl, hb1⟩)
      go_roundw
      case rel => exact ⟨k + 1, by omega, by go_num, HN.out, HB.out.trans (hb1.mono HB.out.size)⟩
      case measure => simp [intOf]; omega
    have HE := Lib.hid (idxR_some hlt HALL.out hp)
    rw [hp] at H
    clear hp
    go_wp2_with ((with_reducible refine H.out.mono ?_); rintro e w1 ⟨rfl, hb1⟩)
    go_ret
    exact ⟨by rw [HE.out]; rfl, HB.out.trans (hb1.mono HB.out.size)⟩
  obtain rfl : k = l.length := by omega
  have HE := Lib.hid (idxR_none HALL.out)
  go_wp2
  go_ret
  exact ⟨by rw [HE.out]; rfl, hbel⟩

theorem containsFuncGI_any (A : Option Addr) (c : Nat) (l : List Int) (F : FuncId) (cap : Array Value) (p : Nat → Bool) (w : World) (hn : l.length ≤ 16777216) (hv : Cells w A (ints l))
    (hF : ∀ (args : Array Value) (w : World), (callFunc F args).run Tryz.prog w = .ok (.enter F args) w)
    (hcall : ∀ (k : Nat) (x : Int) (W : World), l[k]? = some x → Below w.heap.size w W → Calls Tryz.prog F (#[.int .i64 x] ++ cap) W fun e W' => e = .returned (.bool (p k)) ∧ Below W.heap.size W W') :
    Calls Tryz.prog 127 #[.slice A l.length c, .func (.func F) #[] cap] w fun e w' => e = .returned (.bool (anyR l.length p)) ∧ Below w.heap.size w w' := by
  have H := Lib.hid (indexFuncGI_any A c l F cap p w hn hv hF hcall)
  have HI := Lib.hid (idxR_any l.length p)
  skip
  clear hF hcall hv
  go_enter Tryz.func127, Tryz.ntmps127
  go_wp2_with ((with_reducible refine H.out.mono ?_); rintro e w1 ⟨rfl, hb1⟩)
  go_ret
  exact ⟨by rw [← HI.out]; rfl, hb1⟩

theorem indexFuncGW_any (v : Value) (l : List Wi) (F : FuncId) (cap : Array Value) (p : Nat → Bool) (w : World) (hn : l.length ≤ 16777216) (hv : RSl RWi 2 w v l)
    (hF : ∀ (args : Array Value) (w : World), (callFunc F args).run Tryz.prog w = .ok (.enter F args) w)
    (hcall : ∀ (k : Nat) (x : Wi) (W : World), l[k]? = some x → Below w.heap.size w W → Calls Tryz.prog F (#[.agg #[.string x.1, .int .i64 x.2]] ++ cap) W fun e W' => e = .returned (.bool (p k)) ∧ Below W.heap.size W W') :
    Calls Tryz.prog 203 #[v, .func (.func F) #[] cap] w fun e w' => e = .returned (.int .i64 (idxR l.length p)) ∧ Below w.heap.size w w' := by
  have HC := Lib.hid hcall
  have HV := Lib.hid (show ∀ W, Below w.heap.size w W → RSl RWi 2 W v l from fun W hb => hv.below RWi_keep hb)
  obtain ⟨A, c, rfl, _⟩ := hv.form
  clear hcall hv
  go_enter Tryz.func203, Tryz.ntmps203
  go_wp2_with fail
  go_loopw [8] (fun i wr => ∃ k : Nat, k ≤ l.length ∧ i = .int .i64 k ∧ (∀ j, j < k → p j = false) ∧ Below w.heap.size w wr)
    (fun i _ => l.length - (intOf i).toNat)
  case atStart => exact ⟨0, Nat.zero_le _, rfl, fun j hj => by omega, Below.refl _ _⟩
  obtain ⟨k, hk, rfl, hall, hbel⟩ := hrel
  have HALL := Lib.hid hall
  clear hall
  by_cases hlt : k < l.length
  · obtain ⟨b, o, c', ev, k0, k1⟩ := wi_at (HV.out wr hbel) hlt
    cases ev
    have H := Lib.hid (HC.out k _ wr (List.getElem?_eq_getElem hlt) hbel)
    generalize l[k] = x at *
    have HB := Lib.hid hbel
    clear hbel
    cases hp : p k
    · have HN := Lib.hid (none_next HALL.out hp)
      rw [hp] at H
      clear hp
      go_wp2_with ((with_reducible refine H.out.mono ?_); rintro e w1 ⟨rfl, hb1⟩)
      go_roundw
      case rel => exact ⟨k + 1, by omega, by go_num, HN.out, HB.out.trans (hb1.mono HB.out.size)⟩
      case measure => simp [intOf]; omega
    have HE := Lib.hid (idxR_some hlt HALL.out hp)
    rw [hp] at H
    clear hp
    go_wp2_with ((with_reducible refine H.out.mono ?_); rintro e w1 ⟨rfl, hb1⟩)
    go_ret
    exact ⟨by rw [HE.out]; rfl, HB.out.trans (hb1.mono HB.out.size)⟩
  obtain rfl : k = l.length := by omega
  have HE := Lib.hid (idxR_none HALL.out)
  go_wp2
  go_ret
  exact ⟨by rw [HE.out]; rfl, hbel⟩

theorem containsFuncGW_any (v : Value) (l : List Wi) (F : FuncId) (cap : Array Value) (p : Nat → Bool) (w : World) (hn : l.length ≤ 16777216) (hv : RSl RWi 2 w v l)
    (hF : ∀ (args : Array Value) (w : World), (callFunc F args).run Tryz.prog w = .ok (.enter F args) w)
    (hcall : ∀ (k : Nat) (x : Wi) (W : World), l[k]? = some x → Below w.heap.size w W → Calls Tryz.prog F (#[.agg #[.string x.1, .int .i64 x.2]] ++ cap) W fun e W' => e = .returned (.bool (p k)) ∧ Below W.heap.size W W') :
    Calls Tryz.prog 129 #[v, .func (.func F) #[] cap] w fun e w' => e = .returned (.bool (anyR l.length p)) ∧ Below w.heap.size w w' := by
  have H := Lib.hid (indexFuncGW_any v l F cap p w hn hv hF hcall)
  have HI := Lib.hid (idxR_any l.length p)
  obtain ⟨A, c, rfl, _⟩ := hv.form
  clear hF hcall hv
  go_enter Tryz.func129, Tryz.ntmps129
  go_wp2_with ((with_reducible refine H.out.mono ?_); rintro e w1 ⟨rfl, hb1⟩)
  go_ret
  exact ⟨by rw [← HI.out]; rfl, hb1⟩

theorem indexFuncGC_any (v : Value) (l : List Ct) (F : FuncId) (cap : Array Value) (p : Nat → Bool) (w : World) (hn : l.length ≤ 16777216) (hv : RSl RCt 3 w v l)
    (hF : ∀ (args : Array Value) (w : World), (callFunc F args).run Tryz.prog w = .ok (.enter F args) w)
    (hcall : ∀ (k : Nat) (x : Ct) (W : World), l[k]? = some x → Below w.heap.size w W → Calls Tryz.prog F (#[.agg #[.string x.1, .int .i64 x.2.1, .int .i64 x.2.2]] ++ cap) W fun e W' => e = .returned (.bool (p k)) ∧ Below W.heap.size W W') :
    Calls Tryz.prog 252 #[v, .func (.func F) #[] cap] w fun e w' => e = .returned (.int .i64 (idxR l.length p)) ∧ Below w.heap.size w w' := by
  have HC := Lib.hid hcall
  have HV := Lib.hid (show ∀ W, Below w.heap.size w W → RSl RCt 3 W v l from fun W hb => hv.below RCt_keep hb)
  obtain ⟨A, c, rfl, _⟩ := hv.form
  clear hcall hv
  go_enter Tryz.func252, Tryz.ntmps252
  go_wp2_with fail
  go_loopw [8] (fun i wr => ∃ k : Nat, k ≤ l.length ∧ i = .int .i64 k ∧ (∀ j, j < k → p j = false) ∧ Below w.heap.size w wr)
    (fun i _ => l.length - (intOf i).toNat)
  case atStart => exact ⟨0, Nat.zero_le _, rfl, fun j hj => by omega, Below.refl _ _⟩
  obtain ⟨k, hk, rfl, hall, hbel⟩ := hrel
  have HALL := Lib.hid hall
  clear hall
  by_cases hlt : k < l.length
  · obtain ⟨b, o, c', ev, k0, k1, k2⟩ := ct_at (HV.out wr hbel) hlt
    cases ev
    have H := Lib.hid (HC.out k _ wr (List.getElem?_eq_getElem hlt) hbel)
    generalize l[k] = x at *
    have HB := Lib.hid hbel
    clear hbel
    cases hp : p k
    · have HN := Lib.hid (none_next HALL.out hp)
      rw [hp] at H
      clear hp
      go_wp2_with ((with_reducible refine H.out.mono ?_); rintro e w1 ⟨rfl, hb1⟩)
      go_roundw
      case rel => exact ⟨k + 1, by omega, by go_num, HN.out, HB.out.trans (hb1.mono HB.out.size)⟩
      case measure => simp [intOf]; omega
    have HE := Lib.hid (idxR_some hlt HALL.out hp)
    rw [hp] at H
    clear hp
    go_wp2_with ((with_reducible refine H.out.mono ?_); rintro e w1 ⟨rfl, hb1⟩)
    go_ret
    exact ⟨by rw [HE.out]; rfl, HB.out.trans (hb1.mono HB.out.size)⟩
  obtain rfl : k = l.length := by omega
  have HE := Lib.hid (idxR_none HALL.out)
  go_wp2
  go_ret
  exact ⟨by rw [HE.out]; rfl, hbel⟩

theorem containsFuncGC_any (v : Value) (l : List Ct) (F : FuncId) (cap : Array Value) (p : Nat → Bool) (w : World) (hn : l.length ≤ 16777216) (hv : RSl RCt 3 w v l)
    (hF : ∀ (args : Array Value) (w : World), (callFunc F args).run Tryz.prog w = .ok (.enter F args) w)
    (hcall : ∀ (k : Nat) (x : Ct) (W : World), l[k]? = some x → Below w.heap.size w W → Calls Tryz.prog F (#[.agg #[.string x.1, .int .i64 x.2.1, .int .i64 x.2.2]] ++ cap) W fun e W' => e = .returned (.bool (p k)) ∧ Below W.heap.size W W') :
    Calls Tryz.prog 215 #[v, .func (.func F) #[] cap] w fun e w' => e = .returned (.bool (anyR l.length p)) ∧ Below w.heap.size w w' := by
  have H := Lib.hid (indexFuncGC_any v l F cap p w hn hv hF hcall)
  have HI := Lib.hid (idxR_any l.length p)
  obtain ⟨A, c, rfl, _⟩ := hv.form
  clear hF hcall hv
  go_enter Tryz.func215, Tryz.ntmps215
  go_wp2_with ((with_reducible refine H.out.mono ?_); rintro e w1 ⟨rfl, hb1⟩)
  go_ret
  exact ⟨by rw [← HI.out]; rfl, hb1⟩

end Go.Proofs.YtijkdpdmclkmlaaGreatDoor
