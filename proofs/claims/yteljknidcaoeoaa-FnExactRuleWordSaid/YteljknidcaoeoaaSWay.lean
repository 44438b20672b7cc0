/- Systems: well formed, states, ways; program and reference walked. -/
import Derived.Test.YteljknidcaoeoaaProg
import Derived.Test.YteljknidcaoeoaaSGood
import Derived.Test.YteljknidcaoeoaaSysEq
import Derived.Test.YteljknidcaoeoaaSysTo
set_option linter.unusedVariables false
namespace Go.Proofs.Yteljknidcaoeoaa
open Go.RowKit

/-- The sizes for which the helpers have their contracts. -/
def SmallSys (l : Sys) : Prop := l.states.length ≤ 16777216 ∧ l.steps.length ≤ 16777216

set_option maxHeartbeats 1000000 in
theorem isSystem_any (v : Value) (l : Sys) (w : World) (hs : SmallSys l) (hv : RSys w v l) :
    Calls Try.prog 49 #[v] w fun e w' => e = .returned (.bool (goodSys l)) ∧ Below w.heap.size w w' := by
  obtain ⟨sv, tv, rfl, hsv, htv⟩ := hv
  have hb1 : ∀ o, Below w.heap.size w (w.alloc o) := fun o => (Below.refl _ _).alloc (Nat.le_refl _) o
  have H1 := Lib.hid (fun n lo hi W => within_any n lo hi W)
  have H2 := Lib.hid (fun o => areSteps_any tv l.steps l.states.length 6 (w.alloc o) hs.2 (by omega) (by have := hs.1; omega) (by omega) (by omega) (htv.below (hb1 o)))
  have hw1 := hs.1
  obtain ⟨A, c, rfl, _⟩ := hsv.form
  have HB1 := Lib.hid hb1
  clear hb1 hsv htv hs
  cases h1 : inB l.states.length 1 40
  · go_enter Try.func49, Try.ntmps49
    go_wp2_with ((with_reducible refine (H1.out _ _ _ _).mono ?_); rintro e w' ⟨rfl, rfl⟩)
    go_ret
    exact ⟨by simp [goodSys, h1], HB1.out _⟩
  · go_enter Try.func49, Try.ntmps49
    go_wp2_with ((with_reducible refine (H1.out _ _ _ _).mono ?_); rintro e w' ⟨rfl, rfl⟩)
    refine (H2.out _).mono ?_
    rintro e w1 ⟨rfl, hw⟩
    have HZ := Lib.hid ((HB1.out _).trans (hw.mono (HB1.out _).size))
    clear hw
    go_wp2_with fail
    go_ret
    exact ⟨by simp [goodSys, h1], HZ.out⟩

def stateB (l : Sys) (s : Int) : Bool := inB s 0 ((l.states.length : Int) - 1)

set_option maxHeartbeats 1000000 in
theorem isState_any (v : Value) (l : Sys) (s : Int) (w : World) (hs : SmallSys l) (hv : RSys w v l) :
    Calls Try.prog 50 #[v, .int .i64 s] w fun e w' => e = .returned (.bool (stateB l s)) ∧ Below w.heap.size w w' := by
  obtain ⟨sv, tv, rfl, hsv, htv⟩ := hv
  have H1 := Lib.hid (fun n lo hi W => within_any n lo hi W)
  have hw1 := hs.1
  obtain ⟨A, c, rfl, _⟩ := hsv.form
  clear hsv htv hs
  have hwr : IntKind.i64.wrap ((l.states.length : Int) - 1) = (l.states.length : Int) - 1 := IntWalk.i64_in _ (by omega)
  go_enter Try.func50, Try.ntmps50
  go_wp2_with ((with_reducible refine (H1.out _ _ _ _).mono ?_); rintro e w' ⟨rfl, rfl⟩)
  go_ret
  exact ⟨rfl, (Below.refl _ _).alloc (Nat.le_refl _) _⟩

set_option maxHeartbeats 1000000 in
theorem l10State_any (v : Value) (l : Sys) (s : Int) (w : World) (hs : SmallSys l) (hv : RSys w v l) :
    Calls Try.prog 45 #[v, .int .i64 s] w fun e w' => e = .returned (.bool (stateB l s)) ∧ Below w.heap.size w w' := by
  obtain ⟨sv, tv, rfl, hsv, htv⟩ := hv
  have H1 := Lib.hid (fun n lo hi W => l1In_any n lo hi W)
  have hw1 := hs.1
  obtain ⟨A, c, rfl, _⟩ := hsv.form
  clear hsv htv hs
  have hwr : IntKind.i64.wrap ((l.states.length : Int) - 1) = (l.states.length : Int) - 1 := IntWalk.i64_in _ (by omega)
  go_enter Try.func45, Try.ntmps45
  go_wp2_with ((with_reducible refine (H1.out _ _ _ _).mono ?_); rintro e w' ⟨rfl, rfl⟩)
  go_ret
  exact ⟨rfl, (Below.refl _ _).alloc (Nat.le_refl _) _⟩

theorem eqA3 (a b c d e f : Int) (w : World) : (Op.equalIn 10000 66 (.agg #[.int .i64 a, .int .i64 b, .int .i64 c]) (.agg #[.int .i64 d, .int .i64 e, .int .i64 f])).run Try.prog w = .ok (a == d && b == e && c == f) w := by
  have u3 := Try.underlying3
  have a3 := Try.isAgg3
  have z3 := Try.sizeOf3
  rw [show (10000 : Nat) = 9999 + 1 from rfl, Op.equalIn]
  simp only [Sem.run_bind, run_underlying Try.underlying66, Result.andThen_ok]
  simp only [Std.Legacy.Range.forIn_eq_forIn_range', Std.Legacy.Range.size, Nat.sub_zero, Nat.add_sub_cancel, Nat.div_one, List.range'_succ, List.range'_zero, List.forIn_cons, List.forIn_nil]
  go_simp
  by_cases h1 : a = d <;> by_cases h2 : b = e <;> by_cases h3 : c = f <;> simp [h1, h2, h3]
def eqB (t u : I3) : Bool := t.1 == u.1 && t.2.1 == u.2.1 && t.2.2 == u.2.2
theorem eqB_true {t u : I3} (h : eqB t u = true) : t = u := by
  unfold eqB at h
  simp only [Bool.and_eq_true, beq_iff_eq] at h
  exact Prod.ext h.1.1 (Prod.ext h.1.2 h.2)
theorem eqB_false {t u : I3} (h : eqB t u = false) : t ≠ u := by
  intro e
  subst e
  simp [eqB] at h

def hasT (l : List I3) (t : I3) : Bool := l.contains t

theorem hasT_no {l : List I3} {t : I3} (h : ∀ j, j < l.length → l.getD j (0, 0, 0) ≠ t) : hasT l t = false := by
  unfold hasT
  rw [← Bool.not_eq_true, List.contains_iff_mem]
  intro hm
  obtain ⟨j, hj, e⟩ := List.getElem_of_mem hm
  exact h j hj (by simp [List.getD, hj, e])
theorem hasT_yes {l : List I3} {t : I3} {j : Nat} (h : j < l.length) (e : l.getD j (0, 0, 0) = t) : hasT l t = true := by
  unfold hasT
  rw [List.contains_iff_mem]
  simp [List.getD, h] at e
  rw [← e]
  exact List.getElem_mem _

set_option maxHeartbeats 2000000 in
theorem indexT_any (v : Value) (l : List I3) (t : I3) (w : World) (hn : l.length ≤ 16777216) (hv : RA3 w v l) :
    Calls Try.prog 107 #[v, .agg #[.int .i64 t.1, .int .i64 t.2.1, .int .i64 t.2.2]] w fun e w' => (∃ k : Int, e = .returned (.int .i64 k) ∧ decide (0 ≤ k) = hasT l t) ∧ Below w.heap.size w w' := by
  have hv' := hv
  obtain ⟨A, c, rfl, _, _⟩ := hv
  have HV := Lib.hid (show ∀ W, Below w.heap.size w W → RA3 W (.slice A l.length c) l from fun W hb => hv'.below hb)
  clear hv'
  obtain ⟨t1, t2, t3⟩ := t
  go_enter Try.func107, Try.ntmps107
  go_wp2_with fail
  go_loopw [8] (fun i wr => ∃ k : Nat, k ≤ l.length ∧ i = .int .i64 k ∧ (∀ j, j < k → l.getD j (0, 0, 0) ≠ (t1, t2, t3)) ∧ Below w.heap.size w wr ∧ wr.heap[w.heap.size]? = some (.cells #[.int .i64 t1, .int .i64 t2, .int .i64 t3] 66))
    (fun i _ => l.length - (intOf i).toNat)
  case atStart => exact ⟨0, Nat.zero_le _, rfl, fun j hj => by omega, (Below.refl _ _).alloc (Nat.le_refl _) _, heap_alloc_new _ _⟩
  case round =>
    obtain ⟨k, hk, rfl, hall, hbel, hbx⟩ := hrel
    have HALL := Lib.hid hall
    have HB := Lib.hid (fun n => (show Below w.heap.size w (wr.drewN n) from below_drewN' hbel n))
    have HBX := Lib.hid hbx
    by_cases hlt : k < l.length
    · obtain ⟨b, o, c', e, h0, h1, h2⟩ := (HV.out wr hbel).at_ (List.getElem?_eq_getElem hlt)
      cases e
      have q0 := cell_of_row wr _ 0 _ _ _ hbx
      have q1 := cell_of_row wr _ 1 _ _ _ hbx
      have q2 := cell_of_row wr _ 2 _ _ _ hbx
      have hg : l.getD k (0, 0, 0) = l[k] := by simp [List.getD, hlt]
      have HY := Lib.hid (fun h : l[k] = (t1, t2, t3) => hasT_yes hlt (hg.trans h))
      have HN := Lib.hid (fun h : l[k] ≠ (t1, t2, t3) => show ∀ j, j < k + 1 → l.getD j (0, 0, 0) ≠ (t1, t2, t3) from fun j hj => by
        rcases Nat.lt_succ_iff_lt_or_eq.1 hj with h' | h'
        · exact HALL.out j h'
        · rw [h', hg]; exact h)
      clear hall hbel hbx hg
      generalize l[k] = x at *
      obtain ⟨x1, x2, x3⟩ := x
      have b0 : (0 : Int) ≤ (k : Int) := by omega
      have b1 : (k : Int) < (l.length : Int) := by omega
      dsimp only at h0 h1 h2
      have EQ := Lib.hid (eqA3 t1 t2 t3 x1 x2 x3)
      cases hd : (t1 == x1 && t2 == x2 && t3 == x3)
      · have HALL2 := Lib.hid (HN.out (fun h => eqB_false (t := (t1, t2, t3)) (u := (x1, x2, x3)) hd h.symm))
        have EQ2 := EQ.out
        rw [hd] at EQ2
        clear hd
        go_wp2_with fail
        go_quiet (fail)
        go_wp2_with fail
        go_roundw
        case rel => exact ⟨k + 1, by omega, by go_num, HALL2.out, HB.out _, HBX.out⟩
        case measure => simp [intOf]; omega
      · have HE := Lib.hid (HY.out (eqB_true (t := (t1, t2, t3)) (u := (x1, x2, x3)) hd).symm)
        have EQ2 := EQ.out
        rw [hd] at EQ2
        clear hd
        go_wp2_with fail
        go_quiet (fail)
        go_wp2_with fail
        go_ret
        exact ⟨⟨_, rfl, by rw [HE.out]; simp⟩, HB.out _⟩
    · obtain rfl : k = l.length := by omega
      have HF := Lib.hid (hasT_no hall)
      clear hall hbx
      go_wp2_with fail
      go_ret
      exact ⟨⟨_, rfl, by rw [HF.out]; rfl⟩, hbel⟩

end Go.Proofs.Yteljknidcaoeoaa
