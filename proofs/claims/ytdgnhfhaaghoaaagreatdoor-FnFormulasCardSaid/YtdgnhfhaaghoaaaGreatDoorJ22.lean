/- The walk of areSteps: the steps are in range and strictly ascending. -/
import Derived.Test.YtdgnhfhaaghoaaaGreatDoorProg
import Derived.Test.YtdgnhfhaaghoaaaGreatDoorJ12
import Derived.IntWalk
set_option linter.unusedSimpArgs false
set_option linter.unusedVariables false
namespace Go.Proofs.YtdgnhfhaaghoaaaGreatDoor
open Go.RowKit

def stepIn (n mid : Int) (t : I3) : Bool := inB t.1 0 (n - 1) && (inB t.2.1 0 (mid - 1) && inB t.2.2 0 (n - 1))
def stepAt (n mid : Int) (l : List I3) (k : Nat) : Bool := stepIn n mid (l.getD k (0, 0, 0)) && (k == 0 || lt3 (l.getD (k - 1) (0, 0, 0)) (l.getD k (0, 0, 0)))
def goodSteps (n mid : Int) (l : List I3) : Bool := allR l.length (stepAt n mid l)

theorem RA3.at' {w : World} {A : Option Addr} {c : Nat} {l : List I3} (h : RA3 w (.slice A l.length c) l) {k : Nat} (hk : k < l.length) :
    ∃ b o, A = some ⟨b, o, none⟩ ∧ ∀ j, j < l.length → w.cell? ⟨b, o + j * 3, none⟩ = some (.int .i64 (l.getD j (0, 0, 0)).1) ∧ w.cell? ⟨b, o + j * 3 + 1, none⟩ = some (.int .i64 (l.getD j (0, 0, 0)).2.1) ∧ w.cell? ⟨b, o + j * 3 + 2, none⟩ = some (.int .i64 (l.getD j (0, 0, 0)).2.2) := by
  obtain ⟨b, o, c', e, _⟩ := h.at_ (List.getElem?_eq_getElem hk)
  cases e
  refine ⟨b, o, rfl, fun j hj => ?_⟩
  obtain ⟨b', o', c', e, h0, h1, h2⟩ := h.at_ (List.getElem?_eq_getElem hj)
  cases e
  have : l.getD j (0, 0, 0) = l[j] := by simp [List.getD, hj]
  rw [this]
  exact ⟨h0, h1, h2⟩

set_option maxRecDepth 100000 in
set_option maxHeartbeats 4000000 in
theorem areSteps_any (v : Value) (l : List I3) (n mid : Int) (w : World) (hn : l.length ≤ 16777216) (hn0 : 0 ≤ n) (hn1 : n ≤ 16777216) (hm0 : 0 ≤ mid) (hm1 : mid ≤ 1048576) (hv : RA3 w v l) :
    Calls Tryz.prog 119 #[v, .int .i64 n, .int .i64 mid] w fun e w' => e = .returned (.bool (goodSteps n mid l)) ∧ Below w.heap.size w w' := by
  have hv' := hv
  obtain ⟨A, c, rfl, _, _⟩ := hv
  have hv'' : ∀ wr, Below w.heap.size w wr → RA3 wr (.slice A l.length c) l := fun wr hb => hv'.below hb
  have HV := Lib.hid hv''
  clear hv' hv''
  go_enter Tryz.func119, Tryz.ntmps119
  go_wp2_with fail
  go_loopw [11] (fun i wr => ∃ k : Nat, k ≤ l.length ∧ i = .int .i64 k ∧ (∀ j, j < k → stepAt n mid l j = true) ∧ Below w.heap.size w wr)
    (fun i _ => l.length - (intOf i).toNat)
  case atStart => exact ⟨0, Nat.zero_le _, rfl, fun j hj => by omega, Below.refl _ _⟩
  case round =>
    obtain ⟨k, hk, rfl, hall, hbel⟩ := hrel
    have HALL := Lib.hid hall
    clear hall
    by_cases hlt : k < l.length
    · obtain ⟨b, o, rfl, hc⟩ := (HV.out wr hbel).at' hlt
      obtain ⟨hk0, hk1, hk2⟩ := hc k hlt
      have HR : Hid (stepAt n mid l k = (stepIn n mid (l.getD k (0, 0, 0)) && (k == 0 || lt3 (l.getD (k - 1) (0, 0, 0)) (l.getD k (0, 0, 0))))) := rfl
      have HF : Hid (stepAt n mid l k = false → goodSteps n mid l = false) := fun h => allR_false hlt h
      have HN : Hid (stepAt n mid l k = true → ∀ j, j < k + 1 → stepAt n mid l j = true) := fun h => all_next HALL.out h
      have HB := Lib.hid hbel
      have b0 : (0 : Int) ≤ (k : Int) := by omega
      have b1 : (k : Int) < (l.length : Int) := by omega
      have HC := Lib.hid hc
      clear hbel hc
      generalize hx : l.getD k (0, 0, 0) = x at *
      have HX := Lib.hid hx
      clear hx
      have HQ := Lib.hid within_q
      cases h0 : inB x.1 0 (n - 1)
      · have HS := Lib.hid (HF.out (by rw [HR.out]; simp [stepIn, h0]))
        go_wp2_with fail
        go_quiet ((go_at_call 75; exact Calls.quiet_of_same (HQ.out _ _ _ _)))
        go_wp2
        go_ret
        exact ⟨by rw [HS.out]; rfl, below_drewN' (HB.out.alloc HB.out.size _) _⟩
      · cases h1 : inB x.2.1 0 (mid - 1)
        · have HS := Lib.hid (HF.out (by rw [HR.out]; simp [stepIn, h0, h1]))
          go_wp2_with fail
          go_quiet ((go_at_call 75; exact Calls.quiet_of_same (HQ.out _ _ _ _)))
          go_wp2
          go_ret
          exact ⟨by rw [HS.out]; rfl, below_drewN' (HB.out.alloc HB.out.size _) _⟩
        · cases h2 : inB x.2.2 0 (n - 1)
          · have HS := Lib.hid (HF.out (by rw [HR.out]; simp [stepIn, h0, h1, h2]))
            go_wp2_with fail
            go_quiet ((go_at_call 75; exact Calls.quiet_of_same (HQ.out _ _ _ _)))
            go_wp2
            go_ret
            exact ⟨by rw [HS.out]; rfl, below_drewN' (HB.out.alloc HB.out.size _) _⟩
          · have hin : stepIn n mid x = true := by simp [stepIn, h0, h1, h2]
            cases k with
            | zero =>
              have HT := Lib.hid (HN.out (by rw [HR.out, hin]; rfl))
              clear hin
              rw [Nat.zero_mul] at hk0 hk1 hk2
              simp only [Nat.add_zero] at hk0 hk1 hk2
              go_wp2_with fail
              go_quiet ((go_at_call 75; exact Calls.quiet_of_same (HQ.out _ _ _ _)))
              go_wp2
              go_roundw
              case rel => exact ⟨0 + 1, by omega, by go_num, HT.out, below_drewN' (HB.out.alloc HB.out.size _) _⟩
              case measure => simp [intOf]; omega
            | succ m =>
              obtain ⟨hm0', hm1', hm2'⟩ := HC.out m (by omega)
              have hr : stepAt n mid l (m + 1) = lt3 (l.getD m (0, 0, 0)) x := by rw [HR.out, hin]; simp
              clear hin
              generalize l.getD m (0, 0, 0) = y at *
              cases hlt3 : lt3 y x
              · have HS := Lib.hid (HF.out (by rw [hr, hlt3]))
                have hge : decide (0 ≤ cmp3 y x) = true := by
                  have : decide (cmp3 y x < 0) = false := hlt3
                  simpa using this
                clear hr hlt3
                go_wp2_with fail
                have q0 : (wr.alloc (Obj.cells #[.int .i64 x.1, .int .i64 x.2.1, .int .i64 x.2.2] 103)).cell? ⟨wr.heap.size, 0, none⟩ = some (.int .i64 x.1) := by simp
                have q1 : (wr.alloc (Obj.cells #[.int .i64 x.1, .int .i64 x.2.1, .int .i64 x.2.2] 103)).cell? ⟨wr.heap.size, 1, none⟩ = some (.int .i64 x.2.1) := by simp
                have q2 : (wr.alloc (Obj.cells #[.int .i64 x.1, .int .i64 x.2.1, .int .i64 x.2.2] 103)).cell? ⟨wr.heap.size, 2, none⟩ = some (.int .i64 x.2.2) := by simp
                have hal := HB.out.alloc HB.out.size (Obj.cells #[.int .i64 x.1, .int .i64 x.2.1, .int .i64 x.2.2] 103)
                have p0 := cell_below ((Below.refl wr.heap.size wr).alloc (Nat.le_refl _) (Obj.cells #[.int .i64 x.1, .int .i64 x.2.1, .int .i64 x.2.2] 103)) hm0' (lt_of_cell hm0')
                have p1 := cell_below ((Below.refl wr.heap.size wr).alloc (Nat.le_refl _) (Obj.cells #[.int .i64 x.1, .int .i64 x.2.1, .int .i64 x.2.2] 103)) hm1' (lt_of_cell hm1')
                have p2 := cell_below ((Below.refl wr.heap.size wr).alloc (Nat.le_refl _) (Obj.cells #[.int .i64 x.1, .int .i64 x.2.1, .int .i64 x.2.2] 103)) hm2' (lt_of_cell hm2')
                generalize wr.alloc (Obj.cells #[.int .i64 x.1, .int .i64 x.2.1, .int .i64 x.2.2] 103) = w2 at *
                have H3 := Lib.hid (compareSteps_any y x w2.drew)
                have HA := Lib.hid hal
                clear hk0 hk1 hk2 hm0' hm1' hm2' hal
                have e1 : IntKind.i64.wrap (n - 1) = n - 1 := IntWalk.i64_in _ (by omega)
                have e2 : IntKind.i64.wrap (mid - 1) = mid - 1 := IntWalk.i64_in _ (by omega)
                have e3 : IntKind.i64.wrap (m : Int) = (m : Int) := IntWalk.i64_in _ (by omega)
                have e4 : (m : Int) < (l.length : Int) := by omega
                have e5 : (0 : Int) ≤ (m : Int) := by omega
                have e6 : (0 : Int) < (m : Int) + 1 := by omega
                refine wp_region_still_tail 32 (by kernel_rfl) (by kernel_rfl) ?_
                simp only [List.take_succ_cons, List.take_zero, List.drop_succ_cons, List.drop_zero]
                repeat (first | still_step | still_call (HQ.out _ _ _ _))
                refine wpStill_nil ?_
                clear e1 e2 e3
                change wpList _ _ _ _ _ w2.drew
                go_wp2_with ((with_reducible refine H3.out.mono ?_); rintro e w1 ⟨rfl, hb1⟩)
                go_ret
                exact ⟨by rw [HS.out]; rfl, HA.out.drew.trans (hb1.mono HA.out.drew.size)⟩
              · have HT := Lib.hid (HN.out (by rw [hr, hlt3]))
                have hge : decide (0 ≤ cmp3 y x) = false := by
                  have : decide (cmp3 y x < 0) = true := hlt3
                  simpa using this
                clear hr hlt3
                go_wp2_with fail
                have q0 : (wr.alloc (Obj.cells #[.int .i64 x.1, .int .i64 x.2.1, .int .i64 x.2.2] 103)).cell? ⟨wr.heap.size, 0, none⟩ = some (.int .i64 x.1) := by simp
                have q1 : (wr.alloc (Obj.cells #[.int .i64 x.1, .int .i64 x.2.1, .int .i64 x.2.2] 103)).cell? ⟨wr.heap.size, 1, none⟩ = some (.int .i64 x.2.1) := by simp
                have q2 : (wr.alloc (Obj.cells #[.int .i64 x.1, .int .i64 x.2.1, .int .i64 x.2.2] 103)).cell? ⟨wr.heap.size, 2, none⟩ = some (.int .i64 x.2.2) := by simp
                have hal := HB.out.alloc HB.out.size (Obj.cells #[.int .i64 x.1, .int .i64 x.2.1, .int .i64 x.2.2] 103)
                have p0 := cell_below ((Below.refl wr.heap.size wr).alloc (Nat.le_refl _) (Obj.cells #[.int .i64 x.1, .int .i64 x.2.1, .int .i64 x.2.2] 103)) hm0' (lt_of_cell hm0')
                have p1 := cell_below ((Below.refl wr.heap.size wr).alloc (Nat.le_refl _) (Obj.cells #[.int .i64 x.1, .int .i64 x.2.1, .int .i64 x.2.2] 103)) hm1' (lt_of_cell hm1')
                have p2 := cell_below ((Below.refl wr.heap.size wr).alloc (Nat.le_refl _) (Obj.cells #[.int .i64 x.1, .int .i64 x.2.1, .int .i64 x.2.2] 103)) hm2' (lt_of_cell hm2')
                generalize wr.alloc (Obj.cells #[.int .i64 x.1, .int .i64 x.2.1, .int .i64 x.2.2] 103) = w2 at *
                have H3 := Lib.hid (compareSteps_any y x w2.drew)
                have HA := Lib.hid hal
                clear hk0 hk1 hk2 hm0' hm1' hm2' hal
                have e1 : IntKind.i64.wrap (n - 1) = n - 1 := IntWalk.i64_in _ (by omega)
                have e2 : IntKind.i64.wrap (mid - 1) = mid - 1 := IntWalk.i64_in _ (by omega)
                have e3 : IntKind.i64.wrap (m : Int) = (m : Int) := IntWalk.i64_in _ (by omega)
                have e4 : (m : Int) < (l.length : Int) := by omega
                have e5 : (0 : Int) ≤ (m : Int) := by omega
                have e6 : (0 : Int) < (m : Int) + 1 := by omega
                refine wp_region_still_tail 32 (by kernel_rfl) (by kernel_rfl) ?_
                simp only [List.take_succ_cons, List.take_zero, List.drop_succ_cons, List.drop_zero]
                repeat (first | still_step | still_call (HQ.out _ _ _ _))
                refine wpStill_nil ?_
                clear e1 e2 e3
                change wpList _ _ _ _ _ w2.drew
                go_wp2_with ((with_reducible refine H3.out.mono ?_); rintro e w1 ⟨rfl, hb1⟩)
                go_roundw
                case rel => exact ⟨m + 1 + 1, by omega, by go_num, HT.out, HA.out.drew.trans (hb1.mono HA.out.drew.size)⟩
                case measure => simp [intOf]; omega
    · obtain rfl : k = l.length := by omega
      have HE := Lib.hid (allR_true HALL.out)
      go_wp2
      go_ret
      exact ⟨by unfold goodSteps; rw [HE.out]; rfl, hbel⟩

end Go.Proofs.YtdgnhfhaaghoaaaGreatDoor
