/- Systems: the states that are reached, told; program and reference walked. -/
import Derived.Test.YtlgdmafgbmnjdaaProg
import Derived.Test.YtlgdmafgbmnjdaaSReachI
import Derived.Test.YtlgdmafgbmnjdaaSReachW
import Derived.Test.YtlgdmafgbmnjdaaSAlways
set_option linter.unusedVariables false
namespace Go.Proofs.Ytlgdmafgbmnjdaa
open Go.RowKit
open Go.Sort (grow)

def rchL (l : Sys) (p : Int) : List Int := if okState l p then reachL l p else []
theorem rch_ok {l : Sys} {p : Int} (h : okState l p = true) : ∃ q : Nat, p = (q : Int) ∧ q < l.states.length ∧ goodSys l = true := by
  unfold okState at h
  rw [Bool.and_eq_true] at h
  have hpst := inB_true (show inB p 0 ((l.states.length : Int) - 1) = true from h.2)
  exact ⟨p.toNat, by omega, by omega, h.1⟩
theorem rch_len {l : Sys} (hs : SmallSys l) (p : Int) : (rchL l p).length ≤ 16777216 := by
  unfold rchL
  split
  · rename_i h
    obtain ⟨q, rfl, h1, h2⟩ := rch_ok h
    have := reach_len h2 h1
    have := hs.1
    omega
  · simp

set_option maxRecDepth 100000 in
set_option maxHeartbeats 4000000 in
theorem implReachedFrom_any (v : Value) (l : Sys) (p : Int) (w : World) (hs : SmallSys l) (hv : RSys w v l) :
    Calls Try.prog 29 #[v, .int .i64 p] w fun e w' => ∃ r, e = .returned (.tuple #[r, .bool (okState l p)]) ∧ w'.ownsRow w.heap.size 3 1 r (rchL l p).length (ints (rchL l p)) ∧ Below w.heap.size w w' := by
  have HV := Lib.hid (show ∀ W, Below w.heap.size w W → RSys W v l from fun W hb => hv.below hb)
  obtain ⟨sv, tv, rfl, hsv, htv⟩ := hv
  obtain ⟨A, c, rfl, _⟩ := hsv.form
  obtain ⟨B, d, rfl, _, _⟩ := htv
  have hb1 : ∀ o, Below w.heap.size w (w.alloc o) := fun o => (Below.refl _ _).alloc (Nat.le_refl _) o
  have HB := Lib.hid hb1
  have H1 := Lib.hid (fun o => isSystem_any _ l (w.alloc o) hs (HV.out _ (hb1 o)))
  have hsn := hs.1
  clear hsv hb1
  cases hg : goodSys l
  · have E2 := Lib.hid (show okState l p = false by unfold okState; rw [hg]; rfl)
    have E1 := Lib.hid (show rchL l p = [] by unfold rchL; rw [E2.out]; rfl)
    rw [hg] at H1
    clear hg
    go_enter Try.func29, Try.ntmps29
    go_wp2_with fail
    refine (H1.out _).mono ?_
    rintro e w1 ⟨rfl, hw1⟩
    have HZ := Lib.hid ((HB.out _).trans (hw1.mono (HB.out _).size))
    clear hw1
    go_wp2_with fail
    go_ret2
    rw [E1.out, E2.out]
    exact ⟨_, rfl, World.ownsRow_nil _ _ _ _, HZ.out⟩
  have HGD := Lib.hid hg
  rw [hg] at H1
  clear hg
  cases hst : stateB l p
  · have E2 := Lib.hid (show okState l p = false by unfold okState; rw [hst, Bool.and_false])
    have E1 := Lib.hid (show rchL l p = [] by unfold rchL; rw [E2.out]; rfl)
    go_enter Try.func29, Try.ntmps29
    go_wp2_with fail
    refine (H1.out _).mono ?_
    rintro e w1 ⟨rfl, hw1⟩
    obtain ⟨bx, _⟩ := one_box hw1
    have x0 : w1.cell? ⟨w.heap.size, 0, none⟩ = some (.slice A l.states.length c) := cell_of_row _ _ _ _ _ _ bx
    have x1 : w1.cell? ⟨w.heap.size, 1, none⟩ = some (.slice B l.steps.length d) := cell_of_row _ _ _ _ _ _ bx
    have HZ := Lib.hid ((HB.out _).trans (hw1.mono (HB.out _).size))
    clear hw1 bx
    go_wp2_with fail
    refine (isState_any _ l p w1 hs (HV.out w1 HZ.out)).mono ?_
    rintro e w2 ⟨rfl, hw2⟩
    rw [hst]
    have HZ2 := Lib.hid (HZ.out.trans (hw2.mono HZ.out.size))
    clear hw2 x0 x1
    go_wp2_with fail
    go_ret2
    rw [E1.out, E2.out]
    exact ⟨_, rfl, World.ownsRow_nil _ _ _ _, HZ2.out⟩
  have E2 := Lib.hid (show okState l p = true by unfold okState; rw [hst, HGD.out]; rfl)
  have E1 := Lib.hid (show rchL l p = reachL l p by unfold rchL; rw [if_pos E2.out])
  have hpst := inB_true (show inB p 0 ((l.states.length : Int) - 1) = true from hst)
  obtain ⟨ps, rfl⟩ := Int.eq_ofNat_of_zero_le hpst.1
  have hpl : ps < l.states.length := by omega
  clear hpst
  go_enter Try.func29, Try.ntmps29
  go_wp2_with fail
  refine (H1.out _).mono ?_
  rintro e w1 ⟨rfl, hw1⟩
  obtain ⟨bx, _⟩ := one_box hw1
  have x0 : w1.cell? ⟨w.heap.size, 0, none⟩ = some (.slice A l.states.length c) := cell_of_row _ _ _ _ _ _ bx
  have x1 : w1.cell? ⟨w.heap.size, 1, none⟩ = some (.slice B l.steps.length d) := cell_of_row _ _ _ _ _ _ bx
  have HZ := Lib.hid ((HB.out _).trans (hw1.mono (HB.out _).size))
  clear hw1 bx
  go_wp2_with fail
  refine (isState_any _ l (ps : Int) w1 hs (HV.out w1 HZ.out)).mono ?_
  rintro e w2 ⟨rfl, hw2⟩
  rw [hst]
  have x0 := cell_below hw2 x0 (lt_of_cell x0)
  have x1 := cell_below hw2 x1 (lt_of_cell x1)
  have HZ2 := Lib.hid (HZ.out.trans (hw2.mono HZ.out.size))
  clear hw2
  go_wp2_with fail
  refine (reached_any _ l ps w2 hs HGD.out hpl (HV.out w2 HZ2.out)).mono ?_
  rintro e w3 ⟨r, rfl, hr, hw3⟩
  have HR := Lib.hid (owns_mono hr HZ2.out.size)
  have HZ3 := Lib.hid (HZ2.out.trans (hw3.mono HZ2.out.size))
  clear hr hw3 x0 x1
  rw [← E1.out] at HR
  go_wp2_with fail
  go_ret2
  rw [E2.out]
  exact ⟨_, rfl, HR.out, HZ3.out⟩

set_option maxRecDepth 100000 in
set_option maxHeartbeats 4000000 in
theorem specReachedFrom_any (v : Value) (l : Sys) (p : Int) (w : World) (hs : SmallSys l) (hv : RSys w v l) :
    Calls Try.prog 28 #[v, .int .i64 p] w fun e w' => ∃ r, e = .returned (.tuple #[r, .bool (okState l p)]) ∧ w'.ownsRow w.heap.size 3 1 r (rchL l p).length (ints (rchL l p)) ∧ Below w.heap.size w w' := by
  have HV := Lib.hid (show ∀ W, Below w.heap.size w W → RSys W v l from fun W hb => hv.below hb)
  obtain ⟨sv, tv, rfl, hsv, htv⟩ := hv
  obtain ⟨A, c, rfl, _⟩ := hsv.form
  obtain ⟨B, d, rfl, _, _⟩ := htv
  have hb1 : ∀ o, Below w.heap.size w (w.alloc o) := fun o => (Below.refl _ _).alloc (Nat.le_refl _) o
  have HB := Lib.hid hb1
  have H1 := Lib.hid (fun o => l10Good_any _ l (w.alloc o) hs (HV.out _ (hb1 o)))
  have hsn := hs.1
  clear hsv hb1
  cases hg : goodSys l
  · have E2 := Lib.hid (show okState l p = false by unfold okState; rw [hg]; rfl)
    have E1 := Lib.hid (show rchL l p = [] by unfold rchL; rw [E2.out]; rfl)
    rw [hg] at H1
    clear hg
    go_enter Try.func28, Try.ntmps28
    go_wp2_with fail
    refine (H1.out _).mono ?_
    rintro e w1 ⟨rfl, hw1⟩
    have hz := (HB.out _).trans (hw1.mono (HB.out _).size)
    have HO := Lib.hid (owns_mono (owns_zero w1 3) hz.size)
    have HZ := Lib.hid (hz.alloc hz.size (.cells #[] 3))
    clear hw1 hz
    go_wp2_with fail
    go_ret2
    rw [E1.out, E2.out]
    exact ⟨_, rfl, HO.out, HZ.out⟩
  have HGD := Lib.hid hg
  rw [hg] at H1
  clear hg
  cases hst : stateB l p
  · have E2 := Lib.hid (show okState l p = false by unfold okState; rw [hst, Bool.and_false])
    have E1 := Lib.hid (show rchL l p = [] by unfold rchL; rw [E2.out]; rfl)
    go_enter Try.func28, Try.ntmps28
    go_wp2_with fail
    refine (H1.out _).mono ?_
    rintro e w1 ⟨rfl, hw1⟩
    obtain ⟨bx, _⟩ := one_box hw1
    have x0 : w1.cell? ⟨w.heap.size, 0, none⟩ = some (.slice A l.states.length c) := cell_of_row _ _ _ _ _ _ bx
    have x1 : w1.cell? ⟨w.heap.size, 1, none⟩ = some (.slice B l.steps.length d) := cell_of_row _ _ _ _ _ _ bx
    have HZ := Lib.hid ((HB.out _).trans (hw1.mono (HB.out _).size))
    clear hw1 bx
    go_wp2_with fail
    refine (l10State_any _ l p w1 hs (HV.out w1 HZ.out)).mono ?_
    rintro e w2 ⟨rfl, hw2⟩
    rw [hst]
    have hz := HZ.out.trans (hw2.mono HZ.out.size)
    have HO := Lib.hid (owns_mono (owns_zero w2 3) hz.size)
    have HZ2 := Lib.hid (hz.alloc hz.size (.cells #[] 3))
    clear hw2 x0 x1 hz
    go_wp2_with fail
    go_ret2
    rw [E1.out, E2.out]
    exact ⟨_, rfl, HO.out, HZ2.out⟩
  have E2 := Lib.hid (show okState l p = true by unfold okState; rw [hst, HGD.out]; rfl)
  have E1 := Lib.hid (show rchL l p = reachL l p by unfold rchL; rw [if_pos E2.out])
  have hpst := inB_true (show inB p 0 ((l.states.length : Int) - 1) = true from hst)
  obtain ⟨ps, rfl⟩ := Int.eq_ofNat_of_zero_le hpst.1
  have hpl : ps < l.states.length := by omega
  clear hpst
  go_enter Try.func28, Try.ntmps28
  go_wp2_with fail
  refine (H1.out _).mono ?_
  rintro e w1 ⟨rfl, hw1⟩
  obtain ⟨bx, _⟩ := one_box hw1
  have x0 : w1.cell? ⟨w.heap.size, 0, none⟩ = some (.slice A l.states.length c) := cell_of_row _ _ _ _ _ _ bx
  have x1 : w1.cell? ⟨w.heap.size, 1, none⟩ = some (.slice B l.steps.length d) := cell_of_row _ _ _ _ _ _ bx
  have HZ := Lib.hid ((HB.out _).trans (hw1.mono (HB.out _).size))
  clear hw1 bx
  go_wp2_with fail
  refine (l10State_any _ l (ps : Int) w1 hs (HV.out w1 HZ.out)).mono ?_
  rintro e w2 ⟨rfl, hw2⟩
  rw [hst]
  have x0 := cell_below hw2 x0 (lt_of_cell x0)
  have x1 := cell_below hw2 x1 (lt_of_cell x1)
  have HZ2 := Lib.hid (HZ.out.trans (hw2.mono HZ.out.size))
  clear hw2
  go_wp2_with fail
  refine (l10Reach_any _ l ps w2 hs HGD.out hpl (HV.out w2 HZ2.out)).mono ?_
  rintro e w3 ⟨r, rfl, hr, hw3⟩
  have HR := Lib.hid (owns_mono hr HZ2.out.size)
  have HZ3 := Lib.hid (HZ2.out.trans (hw3.mono HZ2.out.size))
  clear hr hw3 x0 x1
  rw [← E1.out] at HR
  go_wp2_with fail
  go_ret2
  rw [E2.out]
  exact ⟨_, rfl, HR.out, HZ3.out⟩

end Go.Proofs.Ytlgdmafgbmnjdaa
