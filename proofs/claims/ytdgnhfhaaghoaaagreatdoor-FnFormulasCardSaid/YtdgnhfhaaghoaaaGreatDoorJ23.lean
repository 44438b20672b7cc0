/- The walk of l11Good: the reference's test of a labelled system. -/
import Derived.Test.YtdgnhfhaaghoaaaGreatDoorProg
import Derived.Test.YtdgnhfhaaghoaaaGreatDoorJ22
set_option linter.unusedSimpArgs false
set_option linter.unusedVariables false
namespace Go.Proofs.YtdgnhfhaaghoaaaGreatDoor
open Go.RowKit

def goodShows (xss : List (List Int)) : Bool := allR xss.length fun k => rising 0 7 (xss.getD k [])
def goodLab (l : Lab) : Bool := inB l.shows.length 1 40 && (goodSteps l.shows.length 8 l.steps && goodShows l.shows)

theorem goodShows_false {xss : List (List Int)} {k : Nat} (hk : k < xss.length) (h : rising 0 7 (xss.getD k []) = false) : goodShows xss = false := allR_false hk h

set_option maxRecDepth 100000 in
set_option maxHeartbeats 4000000 in
theorem l11Good_any (v : Value) (l : Lab) (w : World) (hs : SmallLab l) (hv : RLab w v l) :
    Calls Tryz.prog 83 #[v] w fun e w' => e = .returned (.bool (goodLab l)) ∧ Below w.heap.size w w' := by
  obtain ⟨sv, tv, rfl, hsv, htv⟩ := hv
  obtain ⟨W0, hW0⟩ : ∃ W0, W0 = w.alloc (.cells #[sv, tv] 27) := ⟨_, rfl⟩
  have hb0 : Below w.heap.size w W0 := by rw [hW0]; exact (Below.refl _ _).alloc (Nat.le_refl _) _
  have hbox : W0.heap[w.heap.size]? = some (.cells #[sv, tv] 27) := by rw [hW0]; exact heap_alloc_new _ _
  have hsz : w.heap.size < W0.heap.size := by rw [hW0]; simp
  have hw1 := hs.1
  have hw2 := hs.2.1
  obtain ⟨A, c, vs, rfl, _, hvl, hA, hvi⟩ := hsv.below hb0
  have htv0 := htv.below hb0
  obtain ⟨B, d, rfl, _, _⟩ := htv
  have HVL := Lib.hid hvl
  have HBOX := Lib.hid hbox
  have HB0 := Lib.hid hb0
  have HS := Lib.hid hs
  clear hbox hvl hb0 hsv hs
  go_enter Tryz.func83, Tryz.ntmps83
  go_wp2_with fail
  rw [← hW0]
  clear hW0
  go_loopw [4] (fun i wr => ∃ k : Nat, k ≤ l.shows.length ∧ i = .int .i64 k ∧ (∀ j, j < k → rising 0 7 (l.shows.getD j []) = true) ∧ Below W0.heap.size W0 wr)
    (fun i _ => l.shows.length - (intOf i).toNat)
  case atStart => exact ⟨0, Nat.zero_le _, rfl, fun j hj => by omega, Below.refl _ _⟩
  case round =>
    obtain ⟨k, hk, rfl, hall, hbel⟩ := hrel
    have HALL := Lib.hid hall
    clear hall
    have hbx := hbel.block _ hsz |>.trans HBOX.out
    have x0 : wr.cell? ⟨w.heap.size, 0, none⟩ = some (.slice A l.shows.length c) := cell_of_row _ _ _ _ _ _ hbx
    have x1 : wr.cell? ⟨w.heap.size, 1, none⟩ = some (.slice B l.steps.length d) := cell_of_row _ _ _ _ _ _ hbx
    clear hbx
    by_cases hlt : k < l.shows.length
    · have hku : k < vs.length := by have := HVL.out; omega
      obtain ⟨b, o, rfl, hc⟩ := (hA.below hbel).at_ hku
      have hck := hc k _ (List.getElem?_eq_getElem hku)
      obtain ⟨A1, c1, e1, _, hA1⟩ := (hvi k _ _ (List.getElem?_eq_getElem hku) (List.getElem?_eq_getElem hlt)).below hbel
      rw [e1] at hck
      have hs1 := HS.out.2.2 _ (List.getElem_mem hlt)
      have hget : l.shows.getD k [] = l.shows[k] := by simp [List.getD, hlt]
      have HF : Hid (rising 0 7 l.shows[k] = false → goodShows l.shows = false) := fun h => goodShows_false hlt (by rw [hget]; exact h)
      have HN : Hid (rising 0 7 l.shows[k] = true → ∀ j, j < k + 1 → rising 0 7 (l.shows.getD j []) = true) := fun h => all_next HALL.out (by rw [hget]; exact h)
      clear hc hA hvi e1 hget htv0
      generalize l.shows[k] = x at *
      have H := Lib.hid (l1Rising_any A1 c1 x 0 7 wr hs1 hA1)
      clear hA1
      cases hr : rising 0 7 x
      · have HE := Lib.hid (HF.out hr)
        go_wp2_with ((with_reducible refine H.out.mono ?_); rintro e w1 ⟨rfl, hb1⟩)
        go_ret
        exact ⟨by simp [goodLab, HE.out], HB0.out.trans ((hbel.mono HB0.out.size).trans (hb1.mono (Nat.le_trans HB0.out.size hbel.size)))⟩
      · have HT := Lib.hid (HN.out hr)
        go_wp2_with ((with_reducible refine H.out.mono ?_); rintro e w1 ⟨rfl, hb1⟩)
        go_roundw
        case rel => exact ⟨k + 1, by omega, by go_num, HT.out, hbel.trans (hb1.mono hbel.size)⟩
        case measure => simp [intOf]; omega
    · obtain rfl : k = l.shows.length := by omega
      have HSH := Lib.hid (show goodShows l.shows = true from allR_true HALL.out)
      have HBEL := Lib.hid hbel
      clear hA hvi
      have htv1 := htv0.below hbel
      clear htv0 hbel
      go_wp2_with fail
      obtain ⟨wa, hwa⟩ : ∃ wa, wa = wr := ⟨_, rfl⟩
      subst hwa
      go_loopw [5] (fun i wr => ∃ k : Nat, k ≤ l.steps.length ∧ i = .int .i64 k ∧ (∀ j, j < k → stepAt l.shows.length 8 l.steps j = true) ∧ Below wa.heap.size wa wr)
        (fun i _ => l.steps.length - (intOf i).toNat)
      case atStart => exact ⟨0, Nat.zero_le _, rfl, fun j hj => by omega, Below.refl _ _⟩
      case round =>
        obtain ⟨k, hk, rfl, hall, hbel⟩ := hrel
        have HALL := Lib.hid hall
        clear hall
        have y0 := cell_below hbel x0 (lt_of_cell x0)
        have y1 := cell_below hbel x1 (lt_of_cell x1)
        have hfin : Below w.heap.size w wr := HB0.out.trans ((HBEL.out.mono HB0.out.size).trans (hbel.mono (Nat.le_trans HB0.out.size HBEL.out.size)))
        have HFIN := Lib.hid hfin
        clear hfin x0 x1
        by_cases hlt : k < l.steps.length
        · obtain ⟨b, o, rfl, hc⟩ := (htv1.below hbel).at' hlt
          obtain ⟨hk0, hk1, hk2⟩ := hc k hlt
          have HR : Hid (stepAt l.shows.length 8 l.steps k = (stepIn l.shows.length 8 (l.steps.getD k (0, 0, 0)) && (k == 0 || lt3 (l.steps.getD (k - 1) (0, 0, 0)) (l.steps.getD k (0, 0, 0))))) := rfl
          have HF : Hid (stepAt l.shows.length 8 l.steps k = false → goodSteps l.shows.length 8 l.steps = false) := fun h => allR_false hlt h
          have HN : Hid (stepAt l.shows.length 8 l.steps k = true → ∀ j, j < k + 1 → stepAt l.shows.length 8 l.steps j = true) := fun h => all_next HALL.out h
          have HB := Lib.hid hbel
          have b0 : (0 : Int) ≤ (k : Int) := by omega
          have b1 : (k : Int) < (l.steps.length : Int) := by omega
          have HC := Lib.hid hc
          clear hbel hc htv1
          generalize hx : l.steps.getD k (0, 0, 0) = x at *
          have HX := Lib.hid hx
          clear hx
          have HQ := Lib.hid l1In_q
          obtain ⟨n, hn⟩ : ∃ n, n = (l.shows.length : Int) := ⟨_, rfl⟩
          have HNN := Lib.hid hn
          have hn0 : 0 ≤ n := by omega
          have hn1 : n ≤ 16777216 := by omega
          cases h0 : inB x.1 0 ((l.shows.length : Int) - 1)
          · have HS := Lib.hid (HF.out (by rw [HR.out]; simp [stepIn, h0]))
            go_wp2_with fail
            go_quiet ((go_at_call 112; exact Calls.quiet_of_same (HQ.out _ _ _ _)))
            go_wp2
            go_ret
            exact ⟨by simp [goodLab, HS.out], below_drewN' (HFIN.out.alloc HFIN.out.size _) _⟩
          · cases h1 : inB x.2.1 0 7
            · have HS := Lib.hid (HF.out (by rw [HR.out]; simp [stepIn, h0, h1]))
              go_wp2_with fail
              go_quiet ((go_at_call 112; exact Calls.quiet_of_same (HQ.out _ _ _ _)))
              go_wp2
              go_ret
              exact ⟨by simp [goodLab, HS.out], below_drewN' (HFIN.out.alloc HFIN.out.size _) _⟩
            · cases h2 : inB x.2.2 0 ((l.shows.length : Int) - 1)
              · have HS := Lib.hid (HF.out (by rw [HR.out]; simp [stepIn, h0, h1, h2]))
                go_wp2_with fail
                go_quiet ((go_at_call 112; exact Calls.quiet_of_same (HQ.out _ _ _ _)))
                go_wp2
                go_ret
                exact ⟨by simp [goodLab, HS.out], below_drewN' (HFIN.out.alloc HFIN.out.size _) _⟩
              · have hin : stepIn l.shows.length 8 x = true := by simp [stepIn, h0, h1, h2]
                cases k with
                | zero =>
                  have HT := Lib.hid (HN.out (by rw [HR.out, hin]; rfl))
                  clear hin
                  rw [Nat.zero_mul] at hk0 hk1 hk2
                  simp only [Nat.add_zero] at hk0 hk1 hk2
                  go_wp2_with fail
                  go_quiet ((go_at_call 112; exact Calls.quiet_of_same (HQ.out _ _ _ _)))
                  go_wp2
                  go_roundw
                  case rel => exact ⟨0 + 1, by omega, by go_num, HT.out, below_drewN' (HB.out.alloc HB.out.size _) _⟩
                  case measure => simp [intOf]; omega
                | succ m =>
                  obtain ⟨hm0', hm1', hm2'⟩ := HC.out m (by omega)
                  have hr : stepAt l.shows.length 8 l.steps (m + 1) = lt3 (l.steps.getD m (0, 0, 0)) x := by rw [HR.out, hin]; simp
                  clear hin
                  generalize l.steps.getD m (0, 0, 0) = y at *
                  cases hlt3 : lt3 y x
                  · have HS := Lib.hid (HF.out (by rw [hr, hlt3]))
                    clear hr
                    go_wp2_with fail
                    have q0 : (wr.alloc (Obj.cells #[.int .i64 x.1, .int .i64 x.2.1, .int .i64 x.2.2] 103)).cell? ⟨wr.heap.size, 0, none⟩ = some (.int .i64 x.1) := by simp
                    have q1 : (wr.alloc (Obj.cells #[.int .i64 x.1, .int .i64 x.2.1, .int .i64 x.2.2] 103)).cell? ⟨wr.heap.size, 1, none⟩ = some (.int .i64 x.2.1) := by simp
                    have q2 : (wr.alloc (Obj.cells #[.int .i64 x.1, .int .i64 x.2.1, .int .i64 x.2.2] 103)).cell? ⟨wr.heap.size, 2, none⟩ = some (.int .i64 x.2.2) := by simp
                    have hal := HB.out.alloc HB.out.size (Obj.cells #[.int .i64 x.1, .int .i64 x.2.1, .int .i64 x.2.2] 103)
                    have haf := HFIN.out.alloc HFIN.out.size (Obj.cells #[.int .i64 x.1, .int .i64 x.2.1, .int .i64 x.2.2] 103)
                    have p0 := cell_below ((Below.refl wr.heap.size wr).alloc (Nat.le_refl _) (Obj.cells #[.int .i64 x.1, .int .i64 x.2.1, .int .i64 x.2.2] 103)) hm0' (lt_of_cell hm0')
                    have p1 := cell_below ((Below.refl wr.heap.size wr).alloc (Nat.le_refl _) (Obj.cells #[.int .i64 x.1, .int .i64 x.2.1, .int .i64 x.2.2] 103)) hm1' (lt_of_cell hm1')
                    have p2 := cell_below ((Below.refl wr.heap.size wr).alloc (Nat.le_refl _) (Obj.cells #[.int .i64 x.1, .int .i64 x.2.1, .int .i64 x.2.2] 103)) hm2' (lt_of_cell hm2')
                    have p3 := cell_below ((Below.refl wr.heap.size wr).alloc (Nat.le_refl _) (Obj.cells #[.int .i64 x.1, .int .i64 x.2.1, .int .i64 x.2.2] 103)) y0 (lt_of_cell y0)
                    have p4 := cell_below ((Below.refl wr.heap.size wr).alloc (Nat.le_refl _) (Obj.cells #[.int .i64 x.1, .int .i64 x.2.1, .int .i64 x.2.2] 103)) y1 (lt_of_cell y1)
                    generalize wr.alloc (Obj.cells #[.int .i64 x.1, .int .i64 x.2.1, .int .i64 x.2.2] 103) = w2 at *
                    have H3 := Lib.hid (l10Before_any y x w2.drew)
                    have HA := Lib.hid hal
                    have HAF := Lib.hid haf
                    clear hk0 hk1 hk2 hm0' hm1' hm2' hal haf y0 y1
                    have e1 : IntKind.i64.wrap ((l.shows.length : Int) - 1) = (l.shows.length : Int) - 1 := IntWalk.i64_in _ (by omega)
                    have e3 : IntKind.i64.wrap (m : Int) = (m : Int) := IntWalk.i64_in _ (by omega)
                    have e4 : (m : Int) < (l.steps.length : Int) := by omega
                    have e5 : (0 : Int) ≤ (m : Int) := by omega
                    have e6 : (0 : Int) < (m : Int) + 1 := by omega
                    refine wp_region_still_tail 31 (by kernel_rfl) (by kernel_rfl) ?_
                    simp only [List.take_succ_cons, List.take_zero, List.drop_succ_cons, List.drop_zero]
                    repeat (first | still_step | still_call (HQ.out _ _ _ _))
                    refine wpStill_nil ?_
                    clear e1 e3
                    change wpList _ _ _ _ _ w2.drew
                    go_wp2_with ((with_reducible refine H3.out.mono ?_); rintro e w1 ⟨rfl, hb1⟩)
                    go_ret
                    exact ⟨by simp [goodLab, HS.out], HAF.out.drew.trans (hb1.mono HAF.out.drew.size)⟩
                  · have HT := Lib.hid (HN.out (by rw [hr, hlt3]))
                    clear hr
                    go_wp2_with fail
                    have q0 : (wr.alloc (Obj.cells #[.int .i64 x.1, .int .i64 x.2.1, .int .i64 x.2.2] 103)).cell? ⟨wr.heap.size, 0, none⟩ = some (.int .i64 x.1) := by simp
                    have q1 : (wr.alloc (Obj.cells #[.int .i64 x.1, .int .i64 x.2.1, .int .i64 x.2.2] 103)).cell? ⟨wr.heap.size, 1, none⟩ = some (.int .i64 x.2.1) := by simp
                    have q2 : (wr.alloc (Obj.cells #[.int .i64 x.1, .int .i64 x.2.1, .int .i64 x.2.2] 103)).cell? ⟨wr.heap.size, 2, none⟩ = some (.int .i64 x.2.2) := by simp
                    have hal := HB.out.alloc HB.out.size (Obj.cells #[.int .i64 x.1, .int .i64 x.2.1, .int .i64 x.2.2] 103)
                    have haf := HFIN.out.alloc HFIN.out.size (Obj.cells #[.int .i64 x.1, .int .i64 x.2.1, .int .i64 x.2.2] 103)
                    have p0 := cell_below ((Below.refl wr.heap.size wr).alloc (Nat.le_refl _) (Obj.cells #[.int .i64 x.1, .int .i64 x.2.1, .int .i64 x.2.2] 103)) hm0' (lt_of_cell hm0')
                    have p1 := cell_below ((Below.refl wr.heap.size wr).alloc (Nat.le_refl _) (Obj.cells #[.int .i64 x.1, .int .i64 x.2.1, .int .i64 x.2.2] 103)) hm1' (lt_of_cell hm1')
                    have p2 := cell_below ((Below.refl wr.heap.size wr).alloc (Nat.le_refl _) (Obj.cells #[.int .i64 x.1, .int .i64 x.2.1, .int .i64 x.2.2] 103)) hm2' (lt_of_cell hm2')
                    have p3 := cell_below ((Below.refl wr.heap.size wr).alloc (Nat.le_refl _) (Obj.cells #[.int .i64 x.1, .int .i64 x.2.1, .int .i64 x.2.2] 103)) y0 (lt_of_cell y0)
                    have p4 := cell_below ((Below.refl wr.heap.size wr).alloc (Nat.le_refl _) (Obj.cells #[.int .i64 x.1, .int .i64 x.2.1, .int .i64 x.2.2] 103)) y1 (lt_of_cell y1)
                    generalize wr.alloc (Obj.cells #[.int .i64 x.1, .int .i64 x.2.1, .int .i64 x.2.2] 103) = w2 at *
                    have H3 := Lib.hid (l10Before_any y x w2.drew)
                    have HA := Lib.hid hal
                    have HAF := Lib.hid haf
                    clear hk0 hk1 hk2 hm0' hm1' hm2' hal haf y0 y1
                    have e1 : IntKind.i64.wrap ((l.shows.length : Int) - 1) = (l.shows.length : Int) - 1 := IntWalk.i64_in _ (by omega)
                    have e3 : IntKind.i64.wrap (m : Int) = (m : Int) := IntWalk.i64_in _ (by omega)
                    have e4 : (m : Int) < (l.steps.length : Int) := by omega
                    have e5 : (0 : Int) ≤ (m : Int) := by omega
                    have e6 : (0 : Int) < (m : Int) + 1 := by omega
                    refine wp_region_still_tail 31 (by kernel_rfl) (by kernel_rfl) ?_
                    simp only [List.take_succ_cons, List.take_zero, List.drop_succ_cons, List.drop_zero]
                    repeat (first | still_step | still_call (HQ.out _ _ _ _))
                    refine wpStill_nil ?_
                    clear e1 e3
                    change wpList _ _ _ _ _ w2.drew
                    go_wp2_with ((with_reducible refine H3.out.mono ?_); rintro e w1 ⟨rfl, hb1⟩)
                    go_roundw
                    case rel => exact ⟨m + 1 + 1, by omega, by go_num, HT.out, HA.out.drew.trans (hb1.mono HA.out.drew.size)⟩
                    case measure => simp [intOf]; omega
        · obtain rfl : k = l.steps.length := by omega
          have HE := Lib.hid (show goodSteps l.shows.length 8 l.steps = true from allR_true HALL.out)
          have HL := Lib.hid (l1In_any l.shows.length 1 40 wr)
          go_wp2_with ((with_reducible refine HL.out.mono ?_); rintro e w' ⟨rfl, rfl⟩)
          go_ret
          exact ⟨by simp [goodLab, HE.out, HSH.out], HFIN.out⟩

end Go.Proofs.YtdgnhfhaaghoaaaGreatDoor
