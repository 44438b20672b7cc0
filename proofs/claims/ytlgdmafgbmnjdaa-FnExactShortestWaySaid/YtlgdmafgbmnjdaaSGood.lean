/- Systems: the reference's test and the program's test that a system is well formed, walked. -/
import Derived.Test.YtlgdmafgbmnjdaaProg
import Derived.Test.YtlgdmafgbmnjdaaSteps
import Derived.Test.YtlgdmafgbmnjdaaSys
set_option linter.unusedVariables false
namespace Go.Proofs.Ytlgdmafgbmnjdaa
open Go.RowKit

def goodSys (l : Sys) : Bool := inB l.states.length 1 40 && goodSteps l.states.length 6 l.steps

set_option maxRecDepth 100000 in
set_option maxHeartbeats 4000000 in
theorem l10Good_any (v : Value) (l : Sys) (w : World) (hs : l.states.length ≤ 16777216 ∧ l.steps.length ≤ 16777216) (hv : RSys w v l) :
    Calls Try.prog 34 #[v] w fun e w' => e = .returned (.bool (goodSys l)) ∧ Below w.heap.size w w' := by
  obtain ⟨sv, tv, rfl, hsv, htv⟩ := hv
  obtain ⟨wa, hW0⟩ : ∃ W0, W0 = w.alloc (.cells #[sv, tv] 32) := ⟨_, rfl⟩
  have hb0 : Below w.heap.size w wa := by rw [hW0]; exact (Below.refl _ _).alloc (Nat.le_refl _) _
  have hbox : wa.heap[w.heap.size]? = some (.cells #[sv, tv] 32) := by rw [hW0]; exact heap_alloc_new _ _
  have hw1 := hs.1
  have hw2 := hs.2
  obtain ⟨A, c, rfl, _⟩ := hsv.form
  have htv1 := htv.below hb0
  obtain ⟨B, d, rfl, _, _⟩ := htv
  have x0 : wa.cell? ⟨w.heap.size, 0, none⟩ = some (.slice A l.states.length c) := cell_of_row _ _ _ _ _ _ hbox
  have x1 : wa.cell? ⟨w.heap.size, 1, none⟩ = some (.slice B l.steps.length d) := cell_of_row _ _ _ _ _ _ hbox
  have HB0 := Lib.hid hb0
  clear hbox hb0 hsv hs
  go_enter Try.func34, Try.ntmps34
  go_wp2_with fail
  rw [← hW0]
  clear hW0
  go_loopw [4] (fun i wr => ∃ k : Nat, k ≤ l.steps.length ∧ i = .int .i64 k ∧ (∀ j, j < k → stepAt l.states.length 6 l.steps j = true) ∧ Below wa.heap.size wa wr)
    (fun i _ => l.steps.length - (intOf i).toNat)
  case atStart => exact ⟨0, Nat.zero_le _, rfl, fun j hj => by omega, Below.refl _ _⟩
  case round =>
    obtain ⟨k, hk, rfl, hall, hbel⟩ := hrel
    have HALL := Lib.hid hall
    clear hall
    have y0 := cell_below hbel x0 (lt_of_cell x0)
    have y1 := cell_below hbel x1 (lt_of_cell x1)
    have hfin : Below w.heap.size w wr := HB0.out.trans (hbel.mono HB0.out.size)
    have HFIN := Lib.hid hfin
    clear hfin x0 x1
    by_cases hlt : k < l.steps.length
    · obtain ⟨b, o, rfl, hc⟩ := (htv1.below hbel).at' hlt
      obtain ⟨hk0, hk1, hk2⟩ := hc k hlt
      have HR : Hid (stepAt l.states.length 6 l.steps k = (stepIn l.states.length 6 (l.steps.getD k (0, 0, 0)) && (k == 0 || lt3 (l.steps.getD (k - 1) (0, 0, 0)) (l.steps.getD k (0, 0, 0))))) := rfl
      have HF : Hid (stepAt l.states.length 6 l.steps k = false → goodSteps l.states.length 6 l.steps = false) := fun h => allR_false hlt h
      have HN : Hid (stepAt l.states.length 6 l.steps k = true → ∀ j, j < k + 1 → stepAt l.states.length 6 l.steps j = true) := fun h => all_next HALL.out h
      have HB := Lib.hid hbel
      have b0 : (0 : Int) ≤ (k : Int) := by omega
      have b1 : (k : Int) < (l.steps.length : Int) := by omega
      have HC := Lib.hid hc
      clear hbel hc htv1
      generalize hx : l.steps.getD k (0, 0, 0) = x at *
      have HX := Lib.hid hx
      clear hx
      have HQ := Lib.hid l1In_q
      obtain ⟨n, hn⟩ : ∃ n, n = (l.states.length : Int) := ⟨_, rfl⟩
      have HNN := Lib.hid hn
      have hn0 : 0 ≤ n := by omega
      have hn1 : n ≤ 16777216 := by omega
      cases h0 : inB x.1 0 ((l.states.length : Int) - 1)
      · have HS := Lib.hid (HF.out (by rw [HR.out]; simp [stepIn, h0]))
        go_wp2_with fail
        go_quiet ((go_at_call 67; exact Calls.quiet_of_same (HQ.out _ _ _ _)))
        go_wp2
        go_ret
        exact ⟨by simp [goodSys, HS.out], below_drewN' (HFIN.out.alloc HFIN.out.size _) _⟩
      · cases h1 : inB x.2.1 0 5
        · have HS := Lib.hid (HF.out (by rw [HR.out]; simp [stepIn, h0, h1]))
          go_wp2_with fail
          go_quiet ((go_at_call 67; exact Calls.quiet_of_same (HQ.out _ _ _ _)))
          go_wp2
          go_ret
          exact ⟨by simp [goodSys, HS.out], below_drewN' (HFIN.out.alloc HFIN.out.size _) _⟩
        · cases h2 : inB x.2.2 0 ((l.states.length : Int) - 1)
          · have HS := Lib.hid (HF.out (by rw [HR.out]; simp [stepIn, h0, h1, h2]))
            go_wp2_with fail
            go_quiet ((go_at_call 67; exact Calls.quiet_of_same (HQ.out _ _ _ _)))
            go_wp2
            go_ret
            exact ⟨by simp [goodSys, HS.out], below_drewN' (HFIN.out.alloc HFIN.out.size _) _⟩
          · have hin : stepIn l.states.length 6 x = true := by simp [stepIn, h0, h1, h2]
            cases k with
            | zero =>
              have HT := Lib.hid (HN.out (by rw [HR.out, hin]; rfl))
              clear hin
              rw [Nat.zero_mul] at hk0 hk1 hk2
              simp only [Nat.add_zero] at hk0 hk1 hk2
              go_wp2_with fail
              go_quiet ((go_at_call 67; exact Calls.quiet_of_same (HQ.out _ _ _ _)))
              go_wp2
              go_roundw
              case rel => exact ⟨0 + 1, by omega, by go_num, HT.out, below_drewN' (HB.out.alloc HB.out.size _) _⟩
              case measure => simp [intOf]; omega
            | succ m =>
              obtain ⟨hm0', hm1', hm2'⟩ := HC.out m (by omega)
              have hr : stepAt l.states.length 6 l.steps (m + 1) = lt3 (l.steps.getD m (0, 0, 0)) x := by rw [HR.out, hin]; simp
              clear hin
              generalize l.steps.getD m (0, 0, 0) = y at *
              cases hlt3 : lt3 y x
              · have HS := Lib.hid (HF.out (by rw [hr, hlt3]))
                clear hr
                go_wp2_with fail
                have q0 : (wr.alloc (Obj.cells #[.int .i64 x.1, .int .i64 x.2.1, .int .i64 x.2.2] 69)).cell? ⟨wr.heap.size, 0, none⟩ = some (.int .i64 x.1) := by simp
                have q1 : (wr.alloc (Obj.cells #[.int .i64 x.1, .int .i64 x.2.1, .int .i64 x.2.2] 69)).cell? ⟨wr.heap.size, 1, none⟩ = some (.int .i64 x.2.1) := by simp
                have q2 : (wr.alloc (Obj.cells #[.int .i64 x.1, .int .i64 x.2.1, .int .i64 x.2.2] 69)).cell? ⟨wr.heap.size, 2, none⟩ = some (.int .i64 x.2.2) := by simp
                have hal := HB.out.alloc HB.out.size (Obj.cells #[.int .i64 x.1, .int .i64 x.2.1, .int .i64 x.2.2] 69)
                have haf := HFIN.out.alloc HFIN.out.size (Obj.cells #[.int .i64 x.1, .int .i64 x.2.1, .int .i64 x.2.2] 69)
                have p0 := cell_below ((Below.refl wr.heap.size wr).alloc (Nat.le_refl _) (Obj.cells #[.int .i64 x.1, .int .i64 x.2.1, .int .i64 x.2.2] 69)) hm0' (lt_of_cell hm0')
                have p1 := cell_below ((Below.refl wr.heap.size wr).alloc (Nat.le_refl _) (Obj.cells #[.int .i64 x.1, .int .i64 x.2.1, .int .i64 x.2.2] 69)) hm1' (lt_of_cell hm1')
                have p2 := cell_below ((Below.refl wr.heap.size wr).alloc (Nat.le_refl _) (Obj.cells #[.int .i64 x.1, .int .i64 x.2.1, .int .i64 x.2.2] 69)) hm2' (lt_of_cell hm2')
                have p3 := cell_below ((Below.refl wr.heap.size wr).alloc (Nat.le_refl _) (Obj.cells #[.int .i64 x.1, .int .i64 x.2.1, .int .i64 x.2.2] 69)) y0 (lt_of_cell y0)
                have p4 := cell_below ((Below.refl wr.heap.size wr).alloc (Nat.le_refl _) (Obj.cells #[.int .i64 x.1, .int .i64 x.2.1, .int .i64 x.2.2] 69)) y1 (lt_of_cell y1)
                generalize wr.alloc (Obj.cells #[.int .i64 x.1, .int .i64 x.2.1, .int .i64 x.2.2] 69) = w2 at *
                have H3 := Lib.hid (l10Before_any y x w2.drew)
                have HA := Lib.hid hal
                have HAF := Lib.hid haf
                clear hk0 hk1 hk2 hm0' hm1' hm2' hal haf y0 y1
                have e1 : IntKind.i64.wrap ((l.states.length : Int) - 1) = (l.states.length : Int) - 1 := IntWalk.i64_in _ (by omega)
                have e3 : IntKind.i64.wrap (m : Int) = (m : Int) := IntWalk.i64_in _ (by omega)
                have e4 : (m : Int) < (l.steps.length : Int) := by omega
                have e5 : (0 : Int) ≤ (m : Int) := by omega
                have e6 : (0 : Int) < (m : Int) + 1 := by omega
                refine wp_region_still_tail 31 (by kernel_rfl) (by kernel_rfl) ?_
                simp only [List.take_succ_cons, List.take_zero, List.drop_succ_cons, List.drop_zero]
                repeat (first | still_step | still_call (HQ.out _ _ _ _))
                refine wpStill_nil ?_
                clear e1 e3
                change wpList _ _ _ _ _ w2.drew
                go_wp2_with ((with_reducible refine H3.out.mono ?_); rintro e w1 ⟨rfl, hb1⟩)
                go_ret
                exact ⟨by simp [goodSys, HS.out], HAF.out.drew.trans (hb1.mono HAF.out.drew.size)⟩
              · have HT := Lib.hid (HN.out (by rw [hr, hlt3]))
                clear hr
                go_wp2_with fail
                have q0 : (wr.alloc (Obj.cells #[.int .i64 x.1, .int .i64 x.2.1, .int .i64 x.2.2] 69)).cell? ⟨wr.heap.size, 0, none⟩ = some (.int .i64 x.1) := by simp
                have q1 : (wr.alloc (Obj.cells #[.int .i64 x.1, .int .i64 x.2.1, .int .i64 x.2.2] 69)).cell? ⟨wr.heap.size, 1, none⟩ = some (.int .i64 x.2.1) := by simp
                have q2 : (wr.alloc (Obj.cells #[.int .i64 x.1, .int .i64 x.2.1, .int .i64 x.2.2] 69)).cell? ⟨wr.heap.size, 2, none⟩ = some (.int .i64 x.2.2) := by simp
                have hal := HB.out.alloc HB.out.size (Obj.cells #[.int .i64 x.1, .int .i64 x.2.1, .int .i64 x.2.2] 69)
                have haf := HFIN.out.alloc HFIN.out.size (Obj.cells #[.int .i64 x.1, .int .i64 x.2.1, .int .i64 x.2.2] 69)
                have p0 := cell_below ((Below.refl wr.heap.size wr).alloc (Nat.le_refl _) (Obj.cells #[.int .i64 x.1, .int .i64 x.2.1, .int .i64 x.2.2] 69)) hm0' (lt_of_cell hm0')
                have p1 := cell_below ((Below.refl wr.heap.size wr).alloc (Nat.le_refl _) (Obj.cells #[.int .i64 x.1, .int .i64 x.2.1, .int .i64 x.2.2] 69)) hm1' (lt_of_cell hm1')
                have p2 := cell_below ((Below.refl wr.heap.size wr).alloc (Nat.le_refl _) (Obj.cells #[.int .i64 x.1, .int .i64 x.2.1, .int .i64 x.2.2] 69)) hm2' (lt_of_cell hm2')
                have p3 := cell_below ((Below.refl wr.heap.size wr).alloc (Nat.le_refl _) (Obj.cells #[.int .i64 x.1, .int .i64 x.2.1, .int .i64 x.2.2] 69)) y0 (lt_of_cell y0)
                have p4 := cell_below ((Below.refl wr.heap.size wr).alloc (Nat.le_refl _) (Obj.cells #[.int .i64 x.1, .int .i64 x.2.1, .int .i64 x.2.2] 69)) y1 (lt_of_cell y1)
                generalize wr.alloc (Obj.cells #[.int .i64 x.1, .int .i64 x.2.1, .int .i64 x.2.2] 69) = w2 at *
                have H3 := Lib.hid (l10Before_any y x w2.drew)
                have HA := Lib.hid hal
                have HAF := Lib.hid haf
                clear hk0 hk1 hk2 hm0' hm1' hm2' hal haf y0 y1
                have e1 : IntKind.i64.wrap ((l.states.length : Int) - 1) = (l.states.length : Int) - 1 := IntWalk.i64_in _ (by omega)
                have e3 : IntKind.i64.wrap (m : Int) = (m : Int) := IntWalk.i64_in _ (by omega)
                have e4 : (m : Int) < (l.steps.length : Int) := by omega
                have e5 : (0 : Int) ≤ (m : Int) := by omega
                have e6 : (0 : Int) < (m : Int) + 1 := by omega
                refine wp_region_still_tail 31 (by kernel_rfl) (by kernel_rfl) ?_
                simp only [List.take_succ_cons, List.take_zero, List.drop_succ_cons, List.drop_zero]
                repeat (first | still_step | still_call (HQ.out _ _ _ _))
                refine wpStill_nil ?_
                clear e1 e3
                change wpList _ _ _ _ _ w2.drew
                go_wp2_with ((with_reducible refine H3.out.mono ?_); rintro e w1 ⟨rfl, hb1⟩)
                go_roundw
                case rel => exact ⟨m + 1 + 1, by omega, by go_num, HT.out, HA.out.drew.trans (hb1.mono HA.out.drew.size)⟩
                case measure => simp [intOf]; omega
    · obtain rfl : k = l.steps.length := by omega
      have HE := Lib.hid (show goodSteps l.states.length 6 l.steps = true from allR_true HALL.out)
      have HL := Lib.hid (l1In_any l.states.length 1 40 wr)
      go_wp2_with ((with_reducible refine HL.out.mono ?_); rintro e w' ⟨rfl, rfl⟩)
      go_ret
      exact ⟨by simp [goodSys, HE.out], HFIN.out⟩

end Go.Proofs.Ytlgdmafgbmnjdaa
