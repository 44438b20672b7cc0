/- Systems: well formed, states, ways; program and reference walked. -/
import Derived.Test.YtlgdmafgbmnjdaaProg
import Derived.Test.YtlgdmafgbmnjdaaSGood
import Derived.Test.YtlgdmafgbmnjdaaSysEq
import Derived.Test.YtlgdmafgbmnjdaaSysTo
set_option linter.unusedVariables false
namespace Go.Proofs.Ytlgdmafgbmnjdaa
open Go.RowKit

/-- The sizes for which the helpers have their contracts. -/
def SmallSys (l : Sys) : Prop := l.states.length ≤ 16777216 ∧ l.steps.length ≤ 16777216

set_option maxHeartbeats 1000000 in
theorem isSystem_any (v : Value) (l : Sys) (w : World) (hs : SmallSys l) (hv : RSys w v l) :
    Calls Try.prog 63 #[v] w fun e w' => e = .returned (.bool (goodSys l)) ∧ Below w.heap.size w w' := by
  obtain ⟨sv, tv, rfl, hsv, htv⟩ := hv
  have hb1 : ∀ o, Below w.heap.size w (w.alloc o) := fun o => (Below.refl _ _).alloc (Nat.le_refl _) o
  have H1 := Lib.hid (fun n lo hi W => within_any n lo hi W)
  have H2 := Lib.hid (fun o => areSteps_any tv l.steps l.states.length 6 (w.alloc o) hs.2 (by omega) (by have := hs.1; omega) (by omega) (by omega) (htv.below (hb1 o)))
  have hw1 := hs.1
  obtain ⟨A, c, rfl, _⟩ := hsv.form
  have HB1 := Lib.hid hb1
  clear hb1 hsv htv hs
  cases h1 : inB l.states.length 1 40
  · go_enter Try.func63, Try.ntmps63
    go_wp2_with ((with_reducible refine (H1.out _ _ _ _).mono ?_); rintro e w' ⟨rfl, rfl⟩)
    go_ret
    exact ⟨by simp [goodSys, h1], HB1.out _⟩
  · go_enter Try.func63, Try.ntmps63
    go_wp2_with ((with_reducible refine (H1.out _ _ _ _).mono ?_); rintro e w' ⟨rfl, rfl⟩)
    refine (H2.out _).mono ?_
    rintro e w1 ⟨rfl, hw⟩
    have HZ := Lib.hid ((HB1.out _).trans (hw.mono (HB1.out _).size))
    clear hw
    go_wp2_with fail
    go_ret
    exact ⟨by simp [goodSys, h1], HZ.out⟩

def stateB (l : Sys) (s : Int) : Bool := inB s 0 ((l.states.length : Int) - 1)

set_option maxHeartbeats 1000000 in
theorem isState_any (v : Value) (l : Sys) (s : Int) (w : World) (hs : SmallSys l) (hv : RSys w v l) :
    Calls Try.prog 50 #[v, .int .i64 s] w fun e w' => e = .returned (.bool (stateB l s)) ∧ Below w.heap.size w w' := by
  obtain ⟨sv, tv, rfl, hsv, htv⟩ := hv
  have H1 := Lib.hid (fun n lo hi W => within_any n lo hi W)
  have hw1 := hs.1
  obtain ⟨A, c, rfl, _⟩ := hsv.form
  clear hsv htv hs
  have hwr : IntKind.i64.wrap ((l.states.length : Int) - 1) = (l.states.length : Int) - 1 := IntWalk.i64_in _ (by omega)
  go_enter Try.func50, Try.ntmps50
  go_wp2_with ((with_reducible refine (H1.out _ _ _ _).mono ?_); rintro e w' ⟨rfl, rfl⟩)
  go_ret
  exact ⟨rfl, (Below.refl _ _).alloc (Nat.le_refl _) _⟩

set_option maxHeartbeats 1000000 in
theorem l10State_any (v : Value) (l : Sys) (s : Int) (w : World) (hs : SmallSys l) (hv : RSys w v l) :
    Calls Try.prog 47 #[v, .int .i64 s] w fun e w' => e = .returned (.bool (stateB l s)) ∧ Below w.heap.size w w' := by
  obtain ⟨sv, tv, rfl, hsv, htv⟩ := hv
  have H1 := Lib.hid (fun n lo hi W => l1In_any n lo hi W)
  have hw1 := hs.1
  obtain ⟨A, c, rfl, _⟩ := hsv.form
  clear hsv htv hs
  have hwr : IntKind.i64.wrap ((l.states.length : Int) - 1) = (l.states.length : Int) - 1 := IntWalk.i64_in _ (by omega)
  go_enter Try.func47, Try.ntmps47
  go_wp2_with ((with_reducible refine (H1.out _ _ _ _).mono ?_); rintro e w' ⟨rfl, rfl⟩)
  go_ret
  exact ⟨rfl, (Below.refl _ _).alloc (Nat.le_refl _) _⟩

theorem eqA3 (a b c d e f : Int) (w : World) : (Op.equalIn 10000 69 (.agg #[.int .i64 a, .int .i64 b, .int .i64 c]) (.agg #[.int .i64 d, .int .i64 e, .int .i64 f])).run Try.prog w = .ok (a == d && b == e && c == f) w := by
  have u3 := Try.underlying3
  have a3 := Try.isAgg3
  have z3 := Try.sizeOf3
  rw [show (10000 : Nat) = 9999 + 1 from rfl, Op.equalIn]
  simp only [Sem.run_bind, run_underlying Try.underlying69, Result.andThen_ok]
  simp only [Std.Legacy.Range.forIn_eq_forIn_range', Std.Legacy.Range.size, Nat.sub_zero, Nat.add_sub_cancel, Nat.div_one, List.range'_succ, List.range'_zero, List.forIn_cons, List.forIn_nil]
  go_simp
  by_cases h1 : a = d <;> by_cases h2 : b = e <;> by_cases h3 : c = f <;> simp [h1, h2, h3]
def eqB (t u : I3) : Bool := t.1 == u.1 && t.2.1 == u.2.1 && t.2.2 == u.2.2
theorem eqB_true {t u : I3} (h : eqB t u = true) : t = u := by
  unfold eqB at h
  simp only [Bool.and_eq_true, beq_iff_eq] at h
  exact Prod.ext h.1.1 (Prod.ext h.1.2 h.2)
theorem eqB_false {t u : I3} (h : eqB t u = false) : t ≠ u := by
  intro e
  subst e
  simp [eqB] at h

def hasT (l : List I3) (t : I3) : Bool := l.contains t

theorem hasT_no {l : List I3} {t : I3} (h : ∀ j, j < l.length → l.getD j (0, 0, 0) ≠ t) : hasT l t = false := by
  unfold hasT
  rw [← Bool.not_eq_true, List.contains_iff_mem]
  intro hm
  obtain ⟨j, hj, e⟩ := List.getElem_of_mem hm
  exact h j hj (by simp [List.getD, hj, e])
theorem hasT_yes {l : List I3} {t : I3} {j : Nat} (h : j < l.length) (e : l.getD j (0, 0, 0) = t) : hasT l t = true := by
  unfold hasT
  rw [List.contains_iff_mem]
  simp [List.getD, h] at e
  rw [← e]
  exact List.getElem_mem _

end Go.Proofs.Ytlgdmafgbmnjdaa
