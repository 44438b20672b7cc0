/- Systems marked: the number that is handed on, and what stays. -/
import Derived.Test.YtlgdmafgbmnjdaaProg
import Derived.Test.YtlgdmafgbmnjdaaSysMarkC
set_option linter.unusedVariables false
namespace Go.Proofs.Ytlgdmafgbmnjdaa
open Go.RowKit

def runSys (x : Sys) : Nat := (x.states.map runBig).sum + 3 * x.steps.length
theorem runSys_le {x : Sys} (h : costSys x ≤ 16777216) : runSys x ≤ 200000000 := by
  have a := runs_le (l := x.states) (by unfold costSys at h; omega) x.states.length
  rw [List.take_length] at a
  unfold runSys
  unfold costSys at h
  omega

set_option maxHeartbeats 2000000 in
theorem markSystem_any (S : Nat → Prop) (v : Value) (x : Sys) (k : Int) (w : World) (hn : costSys x ≤ 16777216) (hk0 : 0 < k) (hk1 : k ≤ 100000000) (hS : ∀ b, S b → b < w.heap.size) (hv : OSys w S v x) :
    Calls Try.prog 19 #[v, .int .i64 k] w fun e w' => e = .returned (.int .i64 (k + (runSys x : Nat))) ∧ Kept S w w' := by
  obtain ⟨sv, tv, S1, S2, rfl, h1, h2, a1, a2, a3⟩ := hv
  have hc1 : costL costBig x.states ≤ 16777216 := by unfold costSys at hn; omega
  have hc2 : x.steps.length ≤ 16777216 := by unfold costSys at hn; omega
  have hr := runs_le hc1 x.states.length
  rw [List.take_length] at hr
  have hal : ∀ o, Below w.heap.size w (w.alloc o) := fun o => (Below.refl _ _).alloc (Nat.le_refl _) o
  have H1 := Lib.hid (fun o => markBigraphS_any S1 sv x.states k (w.alloc o) hc1 hk0 hk1 (h1.below OBig_keep (hal o) (Nat.le_refl _)))
  have HH2 := Lib.hid (fun o => h2.below (hal o) (Nat.le_refl _))
  have HAL := Lib.hid hal
  have HRS := Lib.hid (show runSys x = (x.states.map runBig).sum + 3 * x.steps.length from rfl)
  clear h1 h2 hal hc1 hn
  go_enter Try.func19, Try.ntmps19
  go_wp2_with fail
  refine (H1.out _).mono ?_
  rintro e w1 ⟨rfl, hk1'⟩
  have hbx := hk1'.block w.heap.size (by simp) (by intro h; have := hS _ (a1 _ h); omega)
  rw [heap_alloc_new] at hbx
  have q0 := cell_of_row w1 _ 0 _ _ _ hbx
  have q1 := cell_of_row w1 _ 1 _ _ _ hbx
  have H2 := Lib.hid (markIntA3S_any S2 tv x.steps (k + (((x.states.map runBig).sum : Nat) : Int)) w1 hc2 (by omega) (by omega) ((HH2.out _).kept hk1' (fun b hb h => a3 b h hb)))
  have HK1 := Lib.hid hk1'
  clear hk1' hbx
  go_wp2_with fail
  refine H2.out.mono ?_
  rintro e w2 ⟨rfl, _, hk2⟩
  have HK2 := Lib.hid hk2
  clear hk2
  go_wp2_with fail
  go_ret
  refine ⟨?_, ((Kept.of_below (HAL.out _) S).trans (HK1.out.mono a1)).trans (HK2.out.mono a2)⟩
  have := HRS.out
  show Ending.returned (Value.int .i64 _) = _
  congr 2
  omega

end Go.Proofs.Ytlgdmafgbmnjdaa
