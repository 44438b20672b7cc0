/- Systems: whether all states that are reached are goals; program and reference walked. -/
import Derived.Test.YtlgdmafgbmnjdaaProg
import Derived.Test.YtlgdmafgbmnjdaaSGoal
import Derived.Test.YtlgdmafgbmnjdaaSReachI
import Derived.Test.YtlgdmafgbmnjdaaSReachW
set_option linter.unusedVariables false
namespace Go.Proofs.Ytlgdmafgbmnjdaa
open Go.RowKit
open Go.Sort (grow)

def outI (xs ys : List Int) (k : Nat) : Bool := !hasI ys (xs.getD k 0)
def partB (xs ys : List Int) : Bool := !anyR xs.length (outI xs ys)
def okAlways (l : Sys) (p : Int) (g : List Int) : Bool := goodSys l && stateB l p && goalsB l g
def alwaysB (l : Sys) (p : Int) (g : List Int) : Bool := okAlways l p g && partB (reachL l p) g

theorem reach_len {l : Sys} {p : Nat} (hg : goodSys l = true) (hp : p < l.states.length) : (reachL l (p : Int)).length ≤ l.states.length := reachR_len (good_steps hg) hp _

set_option maxRecDepth 100000 in
set_option maxHeartbeats 1000000 in
theorem partClosure_any (R : Option Addr) (cr : Nat) (r : List Int) (x : Int) (a : Nat) (w : World) (hn : r.length ≤ 16777216)
    (ha : w.cell? ⟨a, 0, none⟩ = some (.slice R r.length cr)) (hR : Cells w R (ints r)) :
    Calls Try.prog 82 #[.int .i64 x, .pointer (some ⟨a, 0, none⟩)] w fun e w' => e = .returned (.bool (!hasI r x)) ∧ Below w.heap.size w w' := by
  have H := Lib.hid (contains_any R cr r x w hn hR)
  clear hR
  go_enter Try.func82, Try.ntmps82
  go_wp2_with ((with_reducible refine H.out.mono ?_); rintro e w1 ⟨rfl, rfl⟩)
  go_ret
  exact ⟨rfl, Below.refl _ _⟩

set_option maxRecDepth 100000 in
set_option maxHeartbeats 1000000 in
theorem isPart_any (A B : Option Addr) (c d : Nat) (xs ys : List Int) (w : World) (hn : xs.length ≤ 16777216) (hm : ys.length ≤ 16777216) (hA : Cells w A (ints xs)) (hB : Cells w B (ints ys)) :
    Calls Try.prog 61 #[.slice A xs.length c, .slice B ys.length d] w fun e w' => e = .returned (.bool (partB xs ys)) ∧ Below w.heap.size w w' := by
  have hb1 : Below w.heap.size w (w.alloc (.cells #[.slice B ys.length d] 26)) := (Below.refl _ _).alloc (Nat.le_refl _) _
  have hc0 : (w.alloc (.cells #[.slice B ys.length d] 26)).cell? ⟨w.heap.size, 0, none⟩ = some (.slice B ys.length d) := cell_of_row _ _ _ _ _ _ (heap_alloc_new _ _)
  have H := Lib.hid (containsFuncI_any A c xs 82 #[.pointer (some ⟨w.heap.size, 0, none⟩)] (outI xs ys) (w.alloc (.cells #[.slice B ys.length d] 26)) hn (hA.below hb1) (enter_of Try.func82 (by kernel_rfl) (by kernel_rfl)) (fun q W hq hb =>
    partClosure_any B d ys (xs.getD q 0) w.heap.size W hm (cell_below hb hc0 (lt_of_cell hc0)) (hB.below (hb1.trans (hb.mono hb1.size)))))
  have HB := Lib.hid hb1
  clear hA hB hb1 hc0
  go_enter Try.func61, Try.ntmps61
  go_wp2_with ((with_reducible refine H.out.mono ?_); rintro e w1 ⟨rfl, hw1⟩)
  go_ret
  exact ⟨rfl, HB.out.trans (hw1.mono HB.out.size)⟩

set_option maxRecDepth 100000 in
set_option maxHeartbeats 4000000 in
theorem implAlwaysHas_any (v u2 : Value) (l : Sys) (p : Int) (g : List Int) (w : World) (hs : SmallSys l) (hv : RSys w v l) (hgn : g.length ≤ 16777216) (hg1 : RI w u2 g) :
    Calls Try.prog 27 #[v, .int .i64 p, u2] w fun e w' => e = .returned (.tuple #[.bool (alwaysB l p g), .bool (okAlways l p g)]) ∧ Below w.heap.size w w' := by
  have HV := Lib.hid (show ∀ W, Below w.heap.size w W → RSys W v l from fun W hb => hv.below hb)
  obtain ⟨G, cg, rfl, _, hG⟩ := hg1
  have HG := Lib.hid (show ∀ W, Below w.heap.size w W → Cells W G (ints g) from fun W hb => hG.below hb)
  obtain ⟨sv, tv, rfl, hsv, htv⟩ := hv
  obtain ⟨A, c, rfl, _⟩ := hsv.form
  obtain ⟨B, d, rfl, _, _⟩ := htv
  have hb1 : ∀ o, Below w.heap.size w (w.alloc o) := fun o => (Below.refl _ _).alloc (Nat.le_refl _) o
  have HB := Lib.hid hb1
  have H1 := Lib.hid (fun o => isGoals_any _ l G cg g (w.alloc o) hs (HV.out _ (hb1 o)) hgn (HG.out _ (hb1 o)))
  have hsn := hs.1
  clear hsv hG hb1
  cases hg : okGoals l g
  · have E2 := Lib.hid (show okAlways l p g = false by
      unfold okGoals at hg; unfold okAlways
      cases h1 : goodSys l
      · rfl
      · rw [h1, Bool.true_and] at hg; rw [hg, Bool.and_false])
    have E1 := Lib.hid (show alwaysB l p g = false by unfold alwaysB; rw [E2.out]; rfl)
    rw [hg] at H1
    clear hg
    go_enter Try.func27, Try.ntmps27
    go_wp2_with fail
    refine (H1.out _).mono ?_
    rintro e w1 ⟨rfl, hw1⟩
    have HZ := Lib.hid ((HB.out _).trans (hw1.mono (HB.out _).size))
    clear hw1
    go_wp2_with fail
    go_ret2
    exact ⟨by rw [E1.out, E2.out]; rfl, HZ.out⟩
  have hgg : goodSys l = true ∧ goalsB l g = true := by unfold okGoals at hg; rwa [Bool.and_eq_true] at hg
  have E0 := Lib.hid (show okAlways l p g = stateB l p by unfold okAlways; rw [hgg.1, hgg.2, Bool.and_true, Bool.true_and])
  have HGD := Lib.hid hgg.1
  rw [hg] at H1
  clear hg hgg
  cases hst : stateB l p
  · have E2 := Lib.hid (E0.out.trans hst)
    have E1 := Lib.hid (show alwaysB l p g = false by unfold alwaysB; rw [E2.out]; rfl)
    go_enter Try.func27, Try.ntmps27
    go_wp2_with fail
    refine (H1.out _).mono ?_
    rintro e w1 ⟨rfl, hw1⟩
    obtain ⟨bx, _⟩ := one_box hw1
    have x0 : w1.cell? ⟨w.heap.size, 0, none⟩ = some (.slice A l.states.length c) := cell_of_row _ _ _ _ _ _ bx
    have x1 : w1.cell? ⟨w.heap.size, 1, none⟩ = some (.slice B l.steps.length d) := cell_of_row _ _ _ _ _ _ bx
    have HZ := Lib.hid ((HB.out _).trans (hw1.mono (HB.out _).size))
    clear hw1 bx
    go_wp2_with fail
    refine (isState_any _ l p w1 hs (HV.out w1 HZ.out)).mono ?_
    rintro e w2 ⟨rfl, hw2⟩
    rw [hst]
    have HZ2 := Lib.hid (HZ.out.trans (hw2.mono HZ.out.size))
    clear hw2 x0 x1
    go_wp2_with fail
    go_ret2
    exact ⟨by rw [E1.out, E2.out]; rfl, HZ2.out⟩
  have hpst := inB_true (show inB p 0 ((l.states.length : Int) - 1) = true from hst)
  obtain ⟨ps, rfl⟩ := Int.eq_ofNat_of_zero_le hpst.1
  have hpl : ps < l.states.length := by omega
  have E2 := Lib.hid (E0.out.trans hst)
  have E1 := Lib.hid (show alwaysB l (ps : Int) g = partB (reachL l (ps : Int)) g by unfold alwaysB; rw [E2.out]; rfl)
  have HRL := Lib.hid (reach_len HGD.out hpl)
  clear hpst
  go_enter Try.func27, Try.ntmps27
  go_wp2_with fail
  refine (H1.out _).mono ?_
  rintro e w1 ⟨rfl, hw1⟩
  obtain ⟨bx, _⟩ := one_box hw1
  have x0 : w1.cell? ⟨w.heap.size, 0, none⟩ = some (.slice A l.states.length c) := cell_of_row _ _ _ _ _ _ bx
  have x1 : w1.cell? ⟨w.heap.size, 1, none⟩ = some (.slice B l.steps.length d) := cell_of_row _ _ _ _ _ _ bx
  have HZ := Lib.hid ((HB.out _).trans (hw1.mono (HB.out _).size))
  clear hw1 bx
  go_wp2_with fail
  refine (isState_any _ l (ps : Int) w1 hs (HV.out w1 HZ.out)).mono ?_
  rintro e w2 ⟨rfl, hw2⟩
  rw [hst]
  have x0 := cell_below hw2 x0 (lt_of_cell x0)
  have x1 := cell_below hw2 x1 (lt_of_cell x1)
  have HZ2 := Lib.hid (HZ.out.trans (hw2.mono HZ.out.size))
  clear hw2
  go_wp2_with fail
  refine (reached_any _ l ps w2 hs HGD.out hpl (HV.out w2 HZ2.out)).mono ?_
  rintro e w3 ⟨r, rfl, hr, hw3⟩
  obtain ⟨RA, rc, rfl, hr⟩ := owns_form hr
  have HR := Lib.hid (Cells.of_owns hr)
  have HZ3 := Lib.hid (HZ2.out.trans (hw3.mono HZ2.out.size))
  clear hr hw3 x0 x1
  generalize reachL l (ps : Int) = rl at *
  go_wp2_with fail
  refine (isPart_any RA G rc cg rl g w3 (by have := HRL.out; omega) hgn HR.out (HG.out w3 HZ3.out)).mono ?_
  rintro e w4 ⟨rfl, hw4⟩
  have HZ4 := Lib.hid (HZ3.out.trans (hw4.mono HZ3.out.size))
  clear hw4
  go_wp2_with fail
  go_ret2
  exact ⟨by rw [E1.out, E2.out]; rfl, HZ4.out⟩

set_option maxRecDepth 100000 in
set_option maxHeartbeats 4000000 in
theorem specAlwaysHas_any (v u2 : Value) (l : Sys) (p : Int) (g : List Int) (w : World) (hs : SmallSys l) (hv : RSys w v l) (hgn : g.length ≤ 16777216) (hg1 : RI w u2 g) :
    Calls Try.prog 26 #[v, .int .i64 p, u2] w fun e w' => e = .returned (.tuple #[.bool (alwaysB l p g), .bool (okAlways l p g)]) ∧ Below w.heap.size w w' := by
  have HV := Lib.hid (show ∀ W, Below w.heap.size w W → RSys W v l from fun W hb => hv.below hb)
  obtain ⟨G, cg, rfl, _, hG⟩ := hg1
  have HG := Lib.hid (show ∀ W, Below w.heap.size w W → Cells W G (ints g) from fun W hb => hG.below hb)
  obtain ⟨sv, tv, rfl, hsv, htv⟩ := hv
  obtain ⟨A, c, rfl, _⟩ := hsv.form
  obtain ⟨B, d, rfl, _, _⟩ := htv
  have hb1 : ∀ o, Below w.heap.size w (w.alloc o) := fun o => (Below.refl _ _).alloc (Nat.le_refl _) o
  have HB := Lib.hid hb1
  have H1 := Lib.hid (fun o => l10Good_any _ l (w.alloc o) hs (HV.out _ (hb1 o)))
  have hsn := hs.1
  clear hsv hG hb1
  cases hg : goodSys l
  · have E2 := Lib.hid (show okAlways l p g = false by unfold okAlways; rw [hg]; rfl)
    have E1 := Lib.hid (show alwaysB l p g = false by unfold alwaysB; rw [E2.out]; rfl)
    rw [hg] at H1
    clear hg
    go_enter Try.func26, Try.ntmps26
    go_wp2_with fail
    refine (H1.out _).mono ?_
    rintro e w1 ⟨rfl, hw1⟩
    have HZ := Lib.hid ((HB.out _).trans (hw1.mono (HB.out _).size))
    clear hw1
    go_wp2_with fail
    go_ret2
    exact ⟨by rw [E1.out, E2.out]; rfl, HZ.out⟩
  have HGD := Lib.hid hg
  rw [hg] at H1
  clear hg
  cases hst : stateB l p
  · have E2 := Lib.hid (show okAlways l p g = false by unfold okAlways; rw [hst, Bool.and_false]; rfl)
    have E1 := Lib.hid (show alwaysB l p g = false by unfold alwaysB; rw [E2.out]; rfl)
    go_enter Try.func26, Try.ntmps26
    go_wp2_with fail
    refine (H1.out _).mono ?_
    rintro e w1 ⟨rfl, hw1⟩
    obtain ⟨bx, _⟩ := one_box hw1
    have x0 : w1.cell? ⟨w.heap.size, 0, none⟩ = some (.slice A l.states.length c) := cell_of_row _ _ _ _ _ _ bx
    have x1 : w1.cell? ⟨w.heap.size, 1, none⟩ = some (.slice B l.steps.length d) := cell_of_row _ _ _ _ _ _ bx
    have HZ := Lib.hid ((HB.out _).trans (hw1.mono (HB.out _).size))
    clear hw1 bx
    go_wp2_with fail
    refine (l10State_any _ l p w1 hs (HV.out w1 HZ.out)).mono ?_
    rintro e w2 ⟨rfl, hw2⟩
    rw [hst]
    have HZ2 := Lib.hid (HZ.out.trans (hw2.mono HZ.out.size))
    clear hw2 x0 x1
    go_wp2_with fail
    go_ret2
    exact ⟨by rw [E1.out, E2.out]; rfl, HZ2.out⟩
  have hpst := inB_true (show inB p 0 ((l.states.length : Int) - 1) = true from hst)
  obtain ⟨ps, rfl⟩ := Int.eq_ofNat_of_zero_le hpst.1
  have hpl : ps < l.states.length := by omega
  have E0 := Lib.hid (show okAlways l (ps : Int) g = goalsB l g by unfold okAlways; rw [HGD.out, hst]; rfl)
  have HRL := Lib.hid (reach_len HGD.out hpl)
  clear hpst
  go_enter Try.func26, Try.ntmps26
  go_wp2_with fail
  refine (H1.out _).mono ?_
  rintro e w1 ⟨rfl, hw1⟩
  obtain ⟨bx, _⟩ := one_box hw1
  have x0 : w1.cell? ⟨w.heap.size, 0, none⟩ = some (.slice A l.states.length c) := cell_of_row _ _ _ _ _ _ bx
  have x1 : w1.cell? ⟨w.heap.size, 1, none⟩ = some (.slice B l.steps.length d) := cell_of_row _ _ _ _ _ _ bx
  have HZ := Lib.hid ((HB.out _).trans (hw1.mono (HB.out _).size))
  clear hw1 bx
  go_wp2_with fail
  refine (l10State_any _ l (ps : Int) w1 hs (HV.out w1 HZ.out)).mono ?_
  rintro e w2 ⟨rfl, hw2⟩
  rw [hst]
  have x0 := cell_below hw2 x0 (lt_of_cell x0)
  have x1 := cell_below hw2 x1 (lt_of_cell x1)
  have HZ2 := Lib.hid (HZ.out.trans (hw2.mono HZ.out.size))
  clear hw2
  go_wp2_with fail
  refine (l10Goals_any _ l G cg g w2 hs (HV.out w2 HZ2.out) hgn (HG.out w2 HZ2.out)).mono ?_
  rintro e w3 ⟨rfl, hw3⟩
  have x0 := cell_below hw3 x0 (lt_of_cell x0)
  have x1 := cell_below hw3 x1 (lt_of_cell x1)
  have HZ3 := Lib.hid (HZ2.out.trans (hw3.mono HZ2.out.size))
  clear hw3
  cases hgo : goalsB l g
  · have E2 := Lib.hid (E0.out.trans hgo)
    have E1 := Lib.hid (show alwaysB l (ps : Int) g = false by unfold alwaysB; rw [E2.out]; rfl)
    go_wp2_with fail
    go_ret2
    exact ⟨by rw [E1.out, E2.out]; rfl, HZ3.out⟩
  have E2 := Lib.hid (E0.out.trans hgo)
  have E1 := Lib.hid (show alwaysB l (ps : Int) g = partB (reachL l (ps : Int)) g by unfold alwaysB; rw [E2.out]; rfl)
  go_wp2_with fail
  refine (l10Reach_any _ l ps w3 hs HGD.out hpl (HV.out w3 HZ3.out)).mono ?_
  rintro e w4 ⟨r, rfl, hr, hw4⟩
  obtain ⟨RA, rc, rfl, hr⟩ := owns_form hr
  have HR := Lib.hid (Cells.of_owns hr)
  have HZ4 := Lib.hid (HZ3.out.trans (hw4.mono HZ3.out.size))
  clear hr hw4 x0 x1
  generalize reachL l (ps : Int) = rl at *
  have hrl := HRL.out
  go_wp2_with fail
  go_loop [9] (fun i => ∃ k : Nat, k ≤ rl.length ∧ i = .int .i64 k ∧ ∀ j, j < k → outI rl g j = false) (fun i => rl.length - (intOf i).toNat)
  case atStart => exact ⟨0, Nat.zero_le _, rfl, fun j hj => by omega⟩
  case round =>
    obtain ⟨k, hk, rfl, hall⟩ := hrel
    have HALL := Lib.hid hall
    clear hall
    by_cases hlt : k < rl.length
    · obtain ⟨bb, oo, e, hc⟩ := HR.out.int hlt
      cases e
      have ck := hc k hlt
      have HO := Lib.hid (show outI rl g k = !hasI g (rl.getD k 0) from rfl)
      clear hc
      generalize rl.getD k 0 = y at *
      have H2 := Lib.hid (l1Has_any G cg g y w4 hgn (HG.out _ HZ4.out))
      cases hh : hasI g y
      · have HF := Lib.hid (show partB rl g = false by
          have : anyR rl.length (outI rl g) = true := by unfold anyR; rw [List.any_eq_true]; exact ⟨k, List.mem_range.2 hlt, by rw [HO.out, hh]; rfl⟩
          unfold partB; rw [this]; rfl)
        rw [hh] at H2
        clear hh
        go_wp2_with ((with_reducible refine H2.out.mono ?_); rintro e w5 ⟨rfl, rfl⟩)
        go_ret2
        exact ⟨by rw [E1.out, E2.out, HF.out]; rfl, HZ4.out⟩
      · have HN := Lib.hid (none_next HALL.out (show outI rl g k = false by rw [HO.out, hh]; rfl))
        rw [hh] at H2
        clear hh
        go_wp2_with ((with_reducible refine H2.out.mono ?_); rintro e w5 ⟨rfl, rfl⟩)
        go_round
        case rel => exact ⟨k + 1, by omega, by go_num, HN.out⟩
        case measure => simp [intOf]; omega
    · obtain rfl : k = rl.length := by omega
      have HF := Lib.hid (show partB rl g = true by
        have : anyR rl.length (outI rl g) = false := by unfold anyR; rw [List.any_eq_false]; intro j hj; rw [HALL.out j (List.mem_range.1 hj)]; exact Bool.false_ne_true
        unfold partB; rw [this]; rfl)
      go_wp2_with fail
      go_ret2
      exact ⟨by rw [E1.out, E2.out, HF.out]; rfl, HZ4.out⟩

end Go.Proofs.Ytlgdmafgbmnjdaa
