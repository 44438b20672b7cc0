/- The walk of l11Good: the reference's test of a labelled system. What a valid labelled system is, said in plain words. No program is in sight. -/
import Derived.Test.YtdgnhfhaaghoaaaGreatDoorProg
import Derived.Test.YtdgnhfhaaghoaaaGreatDoorJ20
import Derived.Test.YtdgnhfhaaghoaaaGreatDoorJ10
import Derived.Test.YtdgnhfhaaghoaaaGreatDoorJ9
set_option linter.unusedSimpArgs false
set_option linter.unusedVariables false
namespace Go.Proofs.YtdgnhfhaaghoaaaGreatDoor
open Go.RowKit

def goodShows (xss : List (List Int)) : Bool := allR xss.length fun k => rising 0 7 (xss.getD k [])
def goodLab (l : Lab) : Bool := inB l.shows.length 1 40 && (goodSteps l.shows.length 8 l.steps && goodShows l.shows)

theorem goodShows_false {xss : List (List Int)} {k : Nat} (hk : k < xss.length) (h : rising 0 7 (xss.getD k []) = false) : goodShows xss = false := allR_false hk h

set_option maxRecDepth 100000 in
set_option maxHeartbeats 4000000 in
theorem l11Good_any (v : Value) (l : Lab) (w : World) (hs : SmallLab l) (hv : RLab w v l) :
    Calls Tryz.prog 83 #[v] w fun e w' => e = .returned (.bool (goodLab l)) ∧ Below w.heap.size w w' := by
  obtain ⟨sv, tv, rfl, hsv, htv⟩ := hv
  obtain ⟨W0, hW0⟩ : ∃ W0, W0 = w.alloc (.cells #[sv, tv] 27) := ⟨_, rfl⟩
  have hb0 : Below w.heap.size w W0 := by rw [hW0]; exact (Below.refl _ _).alloc (Nat.le_refl _) _
  have hbox : W0.heap[w.heap.size]? = some (.cells #[sv, tv] 27) := by rw [hW0]; exact heap_alloc_new _ _
  have hsz : w.heap.size < W0.heap.size := by rw [hW0]; simp
  have hw1 := hs.1
  have hw2 := hs.2.1
  obtain ⟨A, c, vs, rfl, _, hvl, hA, hvi⟩ := hsv.below hb0
  have htv0 := htv.below hb0
  obtain ⟨B, d, rfl, _, _⟩ := htv
  have HVL := Lib.hid hvl
  have HBOX := Lib.hid hbox
  have HB0 := Lib.hid hb0
  have HS := Lib.hid hs
  clear hbox hvl hb0 hsv hs
  go_enter Tryz.func83, Tryz.ntmps83
  go_wp2_with fail
  rw [← hW0]
  clear hW0
  go_loopw [4] (fun i wr => ∃ k : Nat, k ≤ l.shows.length ∧ i = .int .i64 k ∧ (∀ j, j < k → rising 0 7 (l.shows.getD j []) = true) ∧ Below W0.heap.size W0 wr)
    (fun i _ => l.shows.length - (intOf i).toNat)
  case atStart => exact ⟨0, Nat.zero_le _, rfl, fun j hj => by omega, Below.refl _ _⟩
  case round =>
    obtain ⟨k, hk, rfl, hall, hbel⟩ := hrel
    have HALL := Lib.hid hall
    clear hall
    have hbx := hbel.block _ hsz |>.trans HBOX.out
    have x0 : wr.cell? ⟨w.heap.size, 0, none⟩ = some (.slice A l.shows.length c) := cell_of_row _ _ _ _ _ _ hbx
    have x1 : wr.cell? ⟨w.heap.size, 1, none⟩ = some (.slice B l.steps.length d) := cell_of_row _ _ _ _ _ _ hbx
    clear hbx
    by_cases hlt : k < l.shows.length
    · have hku : k < vs.length := by have := HVL.out; omega
      obtain ⟨b, o, rfl, hc⟩ := (hA.below hbel).at_ hku
      have hck := hc k _ (List.getElem?_eq_getElem hku)
      obtain ⟨A1, c1, e1, _, hA1⟩ := (hvi k _ _ (List.getElem?_eq_getElem hku) (List.getElem?_eq_getElem hlt)).below hbel
      rw [e1] at hck
      have hs1 := HS.out.2.2 _ (List.getElem_mem hlt)
      have hget : l.shows.getD k [] = l.shows[k] := by simp [List.getD, hlt]
      have HF : Hid (rising 0 7 l.shows[k] = false → goodShows l.shows = false) := fun h => goodShows_false hlt (by rw [hget]; exact h)
      have HN : Hid (rising 0 7 l.shows[k] = true → ∀ j, j < k + 1 → rising 0 7 (l.shows.getD j []) = true) := fun h => all_next HALL.out (by rw [hget]; exact h)
      clear hc hA hvi e1 hget htv0
      generalize l.shows[k] = x at *
      have H := Lib.hid (l1Rising_any A1 c1 x 0 7 wr hs1 hA1)
      clear hA1
      cases hr : rising 0 7 x
      · have HE := Lib.hid (HF.out hr)
        go_wp2_with ((with_reducible refine H.out.mono ?_); rintro e w1 ⟨rfl, hb1⟩)
        go_ret
        exact ⟨by simp [goodLab, HE.out], HB0.out.trans ((hbel.mono HB0.out.size).trans (hb1.mono (Nat.le_trans HB0.out.size hbel.size)))⟩
      · have HT := Lib.hid (HN.out hr)
        go_wp2_with ((with_reducible refine H.out.mono ?_); rintro e w1 ⟨rfl, hb1⟩)
        go_roundw
        case rel => exact ⟨k + 1, by omega, by go_num, HT.out, hbel.trans (hb1.mono hbel.size)⟩
        case measure => simp [intOf]; omega
    · obtain rfl : k = l.shows.length := by omega
      have HSH := Lib.hid (show goodShows l.shows = true from allR_true HALL.out)
      have HBEL := Lib.hid hbel
      clear hA hvi
      have htv1 := htv0.below hbel
      clear htv0 hbel
      go_wp2_with fail
      obtain ⟨wa, hwa⟩ : ∃ wa, wa = wr := ⟨_, rfl⟩
      subst hwa
      go_loopw [5] (fun i wr => ∃ k : Nat, k ≤ l.steps.length ∧ i = .int .i64 k ∧ (∀ j, j < k → stepAt l.shows.length 8 l.steps j = true) ∧ Below wa.heap.size wa wr)
        (fun i _ => l.steps.length - (intOf i).toNat)
      case atStart => exact ⟨0, Nat.zero_le _, rfl, fun j hj => by omega, Below.refl _ _⟩
      case round =>
        obtain ⟨k, hk, rfl, hall, hbel⟩ := hrel
        have HALL := Lib.hid hall
        clear hall
        have y0 := cell_below hbel x0 (lt_of_cell x0)
        have y1 := cell_below hbel x1 (lt_of_cell x1)
        have hfin : Below w.heap.size w wr := HB0.out.trans ((HBEL.out.mono HB0.out.size).trans (hbel.mono (Nat.le_trans HB0.out.size HBEL.out.size)))
        have HFIN := Lib.hid hfin
        clear hfin x0 x1
        by_cases hlt : k < l.steps.length
        · obtain ⟨b, o, rfl, hc⟩ := (htv1.below hbel).at' hlt
          obtain ⟨hk0, hk1, hk2⟩ := hc k hlt
          have HR : Hid (stepAt l.shows.length 8 l.steps k = (stepIn l.shows.length 8 (l.steps.getD k (0, 0, 0)) && (k == 0 || lt3 (l.steps.getD (k - 1) (0, 0, 0)) (l.steps.getD k (0, 0, 0))))) := rfl
          have HF : Hid (stepAt l.shows.length 8 l.steps k = false → goodSteps l.shows.length 8 l.steps = false) := fun h => allR_false hlt h
          have HN : Hid (stepAt l.shows.length 8 l.steps k = true → ∀ j, j < k + 1 → stepAt l.shows.length 8 l.steps j = true) := fun h => all_next HALL.out h
          have HB := Lib.hid hbel
          have b0 : (0 : Int) ≤ (k : Int) := by omega
          have b1 : (k : Int) < (l.steps.length : Int) := by omega
          have HC := Lib.hid hc
          clear hbel hc htv1
          generalize hx : l.steps.getD k (0, 0, 0) = x at *
          have HX := Lib.hid hx
          clear hx
          have HQ := Lib.hid l1In_q
          obtain ⟨n, hn⟩ : ∃ n, n = (l.shows.length : Int) := ⟨_, rfl⟩
          have HNN := Lib.hid hn
          have hn0 : 0 ≤ n := by omega
          have hn1 : n ≤ 16777216 := by omega
          cases h0 : inB x.1 0 ((l.shows.length : Int) - 1)
          · have HS := Lib.hid (HF.out (by rw [HR.out]; simp [stepIn, h0]))
            go_wp2_with fail
            go_quiet ((go_at_call 112; exact Calls.quiet_of_same (HQ.out _ _ _ _)))
            go_wp2
            go_ret
            exact ⟨by simp [goodLab, HS.out], below_drewN' (HFIN.out.alloc HFIN.out.size _) _⟩
          · cases h1 : inB x.2.1 0 7
            · have HS := Lib.hid (HF.out (by rw [HR.out]; simp [stepIn, h0, h1]))
              go_wp2_with fail
              go_quiet ((go_at_call 112; exact Calls.quiet_of_same (HQ.out _ _ _ _)))
              go_wp2
              go_ret
              exact ⟨by simp [goodLab, HS.out], below_drewN' (HFIN.out.alloc HFIN.out.size _) _⟩
            · cases h2 : inB x.2.2 0 ((l.shows.length : Int) - 1)
              · have HS := Lib.hid (HF.out (by rw [HR.out]; simp [stepIn, h0, h1, h2]))
                go_wp2_with fail
                go_quiet ((go_at_call 112; exact Calls.quiet_of_same (HQ.out _ _ _ _)))
                go_wp2
                go_ret
                exact ⟨by simp [goodLab, HS.out], below_drewN' (HFIN.out.alloc HFIN.out.size _) _⟩
              · have hin : stepIn l.shows.length 8 x = true := by simp [stepIn, h0, h1, h2]
                cases k with
                | zero =>
                  have HT := Lib.hid (HN.out (by rw [HR.out, hin]; rfl))
                  clear hin
                  rw [Nat.zero_mul] at hk0 hk1 hk2
                  simp only [Nat.add_zero] at hk0 hk1 hk2
                  go_wp2_with fail
                  go_quiet ((go_at_call 112; exact Calls.quiet_of_same (HQ.out _ _ _ _)))
                  go_wp2
                  go_roundw
                  case rel => exact ⟨0 + 1, by omega, by go_num, HT.out, below_drewN' (HB.out.alloc HB.out.size _) _⟩
                  case measure => simp [intOf]; omega
                | succ m =>
                  obtain ⟨hm0', hm1', hm2'⟩ := HC.out m (by omega)
                  have hr : stepAt l.shows.length 8 l.steps (m + 1) = lt3 (l.steps.getD m (0, 0, 0)) x := by rw [HR.out, hin]; simp
                  clear hin
                  generalize l.steps.getD m (0, 0, 0) = y at *
                  cases hlt3 : lt3 y x
                  · have HS := Lib.hid (HF.out (by rw [hr, hlt3]))
                    clear hr
                    go_wp2_with fail
                    have q0 : (wr.alloc (Obj.cells #[.int .i64 x.1, .int .i64 x.2.1, .int .i64 x.2.2] 103)).cell? ⟨wr.heap.size, 0, none⟩ = some (.int .i64 x.1) := by simp
                    have q1 : (wr.alloc (Obj.cells #[.int .i64 x.1, .int .i64 x.2.1, .int .i64 x.2.2] 103)).cell? ⟨wr.heap.size, 1, none⟩ = some (.int .i64 x.2.1) := by simp
                    have q2 : (wr.alloc (Obj.cells #[.int .i64 x.1, .int .i64 x.2.1, .int .i64 x.2.2] 103)).cell? ⟨wr.heap.size, 2, none⟩ = some (.int .i64 x.2.2) := by simp
                    have hal := HB.out.alloc HB.out.size (Obj.cells #[.int .i64 x.1, .int .i64 x.2.1, .int .i64 x.2.2] 103)
                    have haf := HFIN.out.alloc HFIN.out.size (Obj.cells #[.int .i64 x.1, .int .i64 x.2.1, .int .i64 x.2.2] 103)
                    have p0 := cell_below ((Below.refl wr.heap.size wr).alloc (Nat.le_refl _) (Obj.cells #[.int .i64 x.1, .int .i64 x.2.1, .int .i64 x.2.2] 103)) hm0' (lt_of_cell hm0')
                    have p1 := cell_below ((Below.refl wr.heap.size wr).alloc (Nat.le_refl _) (Obj.cells #[.int .i64 x.1, .int .i64 x.2.1, .int .i64 x.2.2] 103)) hm1' (lt_of_cell hm1')
                    have p2 := cell_below ((Below.refl wr.heap.size wr).alloc (Nat.le_refl _) (Obj.cells #[.int .i64 x.1, .int .i64 x.2.1, .int .i64 x.2.2] 103)) hm2' (lt_of_cell hm2')
                    have p3 := cell_below ((Below.refl wr.heap.size wr).alloc (Nat.le_refl _) (Obj.cells #[.int .i64 x.1, .int .i64 x.2.1, .int .i64 x.2.2] 103)) y0 (lt_of_cell y0)
                    have p4 := cell_below ((Below.refl wr.heap.size wr).alloc (Nat.le_refl _) (Obj.cells #[.int .i64 x.1, .int .i64 x.2.1, .int .i64 x.2.2] 103)) y1 (lt_of_cell y1)
                    generalize wr.alloc (Obj.cells #[.int .i64 x.1, .int .i64 x.2.1, .int .i64 x.2.2] 103) = w2 at *
                    have H3 := Lib.hid (l10Before_any y x w2.drew)
                    have HA := Lib.hid hal
                    have HAF := Lib.hid haf
                    clear hk0 hk1 hk2 hm0' hm1' hm2' hal haf y0 y1
                    have e1 : IntKind.i64.wrap ((l.shows.length : Int) - 1) = (l.shows.length : Int) - 1 := IntWalk.i64_in _ (by omega)
                    have e3 : IntKind.i64.wrap (m : Int) = (m : Int) := IntWalk.i64_in _ (by omega)
                    have e4 : (m : Int) < (l.steps.length : Int) := by omega
                    have e5 : (0 : Int) ≤ (m : Int) := by omega
                    have e6 : (0 : Int) < (m : Int) + 1 := by omega
                    refine wp_region_still_tail 31 (by kernel_rfl) (by kernel_rfl) ?_
                    simp only [List.take_succ_cons, List.take_zero, List.drop_succ_cons, List.drop_zero]
                    repeat (first | still_step | still_call (HQ.out _ _ _ _))
                    refine wpStill_nil ?_
                    clear e1 e3
                    change wpList _ _ _ _ _ w2.drew
                    go_wp2_with ((with_reducible refine H3.out.mono ?_); rintro e w1 ⟨rfl, hb1⟩)
                    go_ret
                    exact ⟨by simp [goodLab, HS.out], HAF.out.drew.trans (hb1.mono HAF.out.drew.size)⟩
                  · have HT := Lib.hid (HN.out (by rw [hr, hlt3]))
                    clear hr
                    go_wp2_with fail
                    have q0 : (wr.alloc (Obj.cells #[.int .i64 x.1, .int .i64 x.2.1, .int .i64 x.2.2] 103)).cell? ⟨wr.heap.size, 0, none⟩ = some (.int .i64 x.1) := by simp
                    have q1 : (wr.alloc (Obj.cells #[.int .i64 x.1, .int .i64 x.2.1, .int .i64 x.2.2] 103)).cell? ⟨wr.heap.size, 1, none⟩ = some (.int .i64 x.2.1) := by simp
                    have q2 : (wr.alloc (Obj.cells #[.int .i64 x.1, .int .i64 x.2.1, .int .i64 x.2.2] 103)).cell? ⟨wr.heap.size, 2, none⟩ = some (.int .i64 x.2.2) := by simp
                    have hal := HB.out.alloc HB.out.size (Obj.cells #[.int .i64 x.1, .int .i64 x.2.1, .int .i64 x.2.2] 103)
                    have haf := HFIN.out.alloc HFIN.out.size (Obj.cells #[.int .i64 x.1, .int .i64 x.2.1, .int .i64 x.2.2] 103)
                    have p0 := cell_below ((Below.refl wr.heap.size wr).alloc (Nat.le_refl _) (Obj.cells #[.int .i64 x.1, .int .i64 x.2.1, .int .i64 x.2.2] 103)) hm0' (lt_of_cell hm0')
                    have p1 := cell_below ((Below.refl wr.heap.size wr).alloc (Nat.le_refl _) (Obj.cells #[.int .i64 x.1, .int .i64 x.2.1, .int .i64 x.2.2] 103)) hm1' (lt_of_cell hm1')
                    have p2 := cell_below ((Below.refl wr.heap.size wr).alloc (Nat.le_refl _) (Obj.cells #[.int .i64 x.1, .int .i64 x.2.1, .int .i64 x.2.2] 103)) hm2' (lt_of_cell hm2')
                    have p3 := cell_below ((Below.refl wr.heap.size wr).alloc (Nat.le_refl _) (Obj.cells #[.int .i64 x.1, .int .i64 x.2.1, .int .i64 x.2.2] 103)) y0 (lt_of_cell y0)
                    have p4 := cell_below ((Below.refl wr.heap.size wr).alloc (Nat.le_refl _) (Obj.cells #[.int .i64 x.1, .int .i64 x.2.1, .int .i64 x.2.2] 103)) y1 (lt_of_cell y1)
                    generalize wr.alloc (Obj.cells #[.int .i64 x.1, .int .i64 x.2.1, .int .i64 x.2.2] 103) = w2 at *
                    have H3 := Lib.hid (l10Before_any y x w2.drew)
                    have HA := Lib.hid hal
                    have HAF := Lib.hid haf
                    clear hk0 hk1 hk2 hm0' hm1' hm2' hal haf y0 y1
                    have e1 : IntKind.i64.wrap ((l.shows.length : Int) - 1) = (l.shows.length : Int) - 1 := IntWalk.i64_in _ (by omega)
                    have e3 : IntKind.i64.wrap (m : Int) = (m : Int) := IntWalk.i64_in _ (by omega)
                    have e4 : (m : Int) < (l.steps.length : Int) := by omega
                    have e5 : (0 : Int) ≤ (m : Int) := by omega
                    have e6 : (0 : Int) < (m : Int) + 1 := by omega
                    refine wp_region_still_tail 31 (by kernel_rfl) (by kernel_rfl) ?_
                    simp only [List.take_succ_cons, List.take_zero, List.drop_succ_cons, List.drop_zero]
                    repeat (first | still_step | still_call (HQ.out _ _ _ _))
                    refine wpStill_nil ?_
                    clear e1 e3
                    change wpList _ _ _ _ _ w2.drew
                    go_wp2_with ((with_reducible refine H3.out.mono ?_); rintro e w1 ⟨rfl, hb1⟩)
                    go_roundw
                    case rel => exact ⟨m + 1 + 1, by omega, by go_num, HT.out, HA.out.drew.trans (hb1.mono HA.out.drew.size)⟩
                    case measure => simp [intOf]; omega
        · obtain rfl : k = l.steps.length := by omega
          have HE := Lib.hid (show goodSteps l.shows.length 8 l.steps = true from allR_true HALL.out)
          have HL := Lib.hid (l1In_any l.shows.length 1 40 wr)
          go_wp2_with ((with_reducible refine HL.out.mono ?_); rintro e w' ⟨rfl, rfl⟩)
          go_ret
          exact ⟨by simp [goodLab, HE.out, HSH.out], HFIN.out⟩

end Go.Proofs.YtdgnhfhaaghoaaaGreatDoor

set_option linter.unusedVariables false
namespace Go.Proofs.YtdgnhfhaaghoaaaGreatDoor

theorem lt3_code {t u : I3} (h : lt3 t u = true) (ht : 0 ≤ t.2.1 ∧ t.2.1 < 8 ∧ 0 ≤ t.2.2 ∧ t.2.2 < 40) (hu : 0 ≤ u.2.1 ∧ u.2.1 < 8 ∧ 0 ≤ u.2.2 ∧ u.2.2 < 40) : t.1 * 320 + t.2.1 * 40 + t.2.2 < u.1 * 320 + u.2.1 * 40 + u.2.2 := by
  obtain ⟨x, y, z⟩ := t
  obtain ⟨x', y', z'⟩ := u
  dsimp only at *
  by_cases hx : x = x'
  · subst hx
    by_cases hy : y = y'
    · subst hy
      by_cases hz : z = z'
      · subst hz
        rw [lt3_self] at h
        cases h
      · rw [lt3_ne3 hz] at h
        simp at h
        omega
    · rw [lt3_ne2 hy] at h
      simp at h
      omega
  · rw [lt3_ne1 hx] at h
    simp at h
    omega
theorem goodF_all {n k : Nat} {p : Nat → Bool} (h : allR n p = true) (hk : k < n) : p k = true := by
  unfold allR at h
  rw [List.all_eq_true] at h
  exact h k (List.mem_range.2 hk)
theorem goodF_size {l : Lab} (h : goodLab l = true) : 1 ≤ l.shows.length ∧ l.shows.length ≤ 40 := by
  unfold goodLab at h
  simp only [Bool.and_eq_true] at h
  have := inB_true h.1
  omega
theorem goodF_in {l : Lab} (h : goodLab l = true) {i : Nat} (hi : i < l.steps.length) : 0 ≤ (l.steps[i]).1 ∧ (l.steps[i]).1 < l.shows.length ∧ 0 ≤ (l.steps[i]).2.1 ∧ (l.steps[i]).2.1 < 8 ∧ 0 ≤ (l.steps[i]).2.2 ∧ (l.steps[i]).2.2 < l.shows.length := by
  unfold goodLab goodSteps at h
  simp only [Bool.and_eq_true] at h
  have h1 := goodF_all h.2.1 hi
  unfold stepAt stepIn at h1
  have e : l.steps.getD i (0, 0, 0) = l.steps[i] := by simp [List.getD, hi]
  rw [e] at h1
  simp only [Bool.and_eq_true] at h1
  have a := inB_true h1.1.1
  have b := inB_true h1.1.2.1
  have c := inB_true h1.1.2.2
  omega
theorem goodF_steps {l : Lab} (h : goodLab l = true) : StepsN l.shows.length l.steps := fun s hs => by
  obtain ⟨i, hi, rfl⟩ := List.getElem_of_mem hs
  have := goodF_in h hi
  exact ⟨(l.steps[i]).1.toNat, (l.steps[i]).2.2.toNat, by omega, by omega, by omega, by omega⟩
theorem goodF_acts {l : Lab} (h : goodLab l = true) : ∀ s ∈ l.steps, 0 ≤ s.2.1 ∧ s.2.1 < 8 := fun s hs => by
  obtain ⟨i, hi, rfl⟩ := List.getElem_of_mem hs
  have := goodF_in h hi
  omega
theorem goodF_many {l : Lab} (h : goodLab l = true) : l.steps.length ≤ 12800 := by
  have hn := goodF_size h
  have hk : ∀ k, (hk : k < l.steps.length) → (k : Int) ≤ (l.steps[k]).1 * 320 + (l.steps[k]).2.1 * 40 + (l.steps[k]).2.2 := by
    intro k
    induction k with
    | zero => intro hk; have := goodF_in h hk; omega
    | succ k ih =>
      intro hk
      have h1 := ih (by omega)
      have a1 := goodF_in h hk
      have a0 := goodF_in h (show k < l.steps.length by omega)
      have hg := h
      unfold goodLab goodSteps at hg
      simp only [Bool.and_eq_true] at hg
      have h2 := goodF_all hg.2.1 hk
      unfold stepAt at h2
      have e1 : l.steps.getD (k + 1) (0, 0, 0) = l.steps[k + 1] := by simp [List.getD, hk]
      have e0 : l.steps.getD k (0, 0, 0) = l.steps[k] := by simp [List.getD, show k < l.steps.length by omega]
      rw [Nat.add_sub_cancel, e1, e0] at h2
      simp only [Bool.and_eq_true, Bool.or_eq_true, beq_iff_eq] at h2
      rcases h2.2 with h3 | h3
      · omega
      · have := lt3_code h3 (by omega) (by omega)
        omega
  by_cases hl : l.steps.length ≤ 12800
  · exact hl
  · have h1 := hk 12800 (by omega)
    have h2 := goodF_in h (show 12800 < l.steps.length by omega)
    omega
theorem goodF_row {l : Lab} (h : goodLab l = true) {i : Nat} (hi : i < l.shows.length) : (l.shows.getD i []).Pairwise (· < ·) ∧ (∀ x ∈ l.shows.getD i [], 0 ≤ x ∧ x < 8) ∧ (l.shows.getD i []).length ≤ 8 := by
  unfold goodLab goodShows at h
  simp only [Bool.and_eq_true] at h
  have h1 := goodF_all h.2.2 hi
  generalize l.shows.getD i [] = xs at *
  unfold rising at h1
  have hin : ∀ k, k < xs.length → 0 ≤ xs.getD k 0 ∧ xs.getD k 0 ≤ 7 := fun k hk => by
    have := goodF_all h1 hk
    unfold riseAt at this
    rw [Bool.and_eq_true] at this
    exact inB_true this.1
  have hlt : ∀ k, k + 1 < xs.length → xs.getD k 0 < xs.getD (k + 1) 0 := fun k hk => by
    have := goodF_all h1 hk
    unfold riseAt at this
    simp only [Bool.and_eq_true, Bool.or_eq_true, beq_iff_eq, decide_eq_true_eq, Nat.add_sub_cancel] at this
    rcases this.2 with h2 | h2
    · omega
    · exact h2
  have hmon : ∀ d k, k + d + 1 < xs.length → xs.getD k 0 < xs.getD (k + d + 1) 0 := by
    intro d
    induction d with
    | zero => intro k hk; exact hlt k hk
    | succ d ih =>
      intro k hk
      have a := ih k (by omega)
      have b := hlt (k + d + 1) (by omega)
      rw [show k + (d + 1) + 1 = k + d + 1 + 1 by omega]
      omega
  have hge : ∀ k, k < xs.length → (k : Int) ≤ xs.getD k 0 := by
    intro k
    induction k with
    | zero => intro hk; exact (hin 0 hk).1
    | succ k ih =>
      intro hk
      have a := ih (by omega)
      have b := hlt k hk
      omega
  refine ⟨?_, fun x hx => ?_, ?_⟩
  · rw [List.pairwise_iff_getElem]
    intro i j hi' hj' hij
    have a := hmon (j - i - 1) i (by omega)
    rw [show i + (j - i - 1) + 1 = j by omega] at a
    have e1 : xs.getD i 0 = xs[i] := by simp [List.getD, hi']
    have e2 : xs.getD j 0 = xs[j] := by simp [List.getD, hj']
    omega
  · obtain ⟨j, hj, rfl⟩ := List.getElem_of_mem hx
    have a := hin j hj
    have e1 : xs.getD j 0 = xs[j] := by simp [List.getD, hj]
    omega
  · by_cases hl : xs.length ≤ 8
    · exact hl
    · have a := hge 8 (by omega)
      have b := hin 8 (by omega)
      omega

end Go.Proofs.YtdgnhfhaaghoaaaGreatDoor
