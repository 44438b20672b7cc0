/- Rule words: program and reference walked. -/
import Derived.Test.YteljknidcaoeoaaProg
import Derived.Test.YteljknidcaoeoaaSWayB
import Derived.Lib.QuietBelow
set_option linter.unusedVariables false
namespace Go.Proofs.Yteljknidcaoeoaa
open Go.RowKit
open Go.Sort (grow)

theorem info_wi : (Try.prog.info? 3).map (fun i => (i.zero, i.size, i.bytes)) = some (some (.int .i64 0), 1, 8) := by kernel_rfl

def okWord (l : Sys) (way : List I3) : Bool := goodSys l && (way.isEmpty || wayB l.steps (way.getD 0 (0, 0, 0)).1 way)
def wordL (l : Sys) (way : List I3) : List Int := if okWord l way then way.map (fun s => s.2.1) else []

theorem quiet_cut {P : Program} {ops : Array Oper} {C : World → Prop} {Q : Act → Prop} (n : Nat) {l : List Oper} {a : Act}
    (h : ∀ K : Act → Prop, (∀ a', wpQuiet P ops C Q (l.drop n) a' → K a') → wpQuiet P ops C K (l.take n) a) : wpQuiet P ops C Q l a := by
  have H := h _ (fun _ h => h)
  clear h
  induction n generalizing l a with
  | zero => exact H
  | succ n ih =>
    cases l with
    | nil => exact H
    | cons o l =>
      simp only [List.take_succ_cons, List.drop_succ_cons, wpQuiet] at H ⊢
      split at H
      · rename_i hw
        rw [if_pos hw]
        exact Oper.quiet_mono (fun a h => ih h) H
      · rename_i hw
        rw [if_neg hw]
        exact ih H

theorem owns_zero (w : World) (e : TypeId) : (w.alloc (.cells #[] e)).ownsRow w.heap.size e 1 (.slice (some ⟨w.heap.size, 0, none⟩) 0 0) 0 [] := World.ownsRow_made w #[] 0 (Nat.le_refl _) (Nat.zero_le _) rfl

set_option maxRecDepth 100000 in
set_option maxHeartbeats 8000000 in
theorem implRuleWord_any (v u : Value) (l : Sys) (way : List I3) (w : World) (hs : SmallSys l) (hv : RSys w v l) (hwn : way.length ≤ 16777216) (hu : RA3 w u way) :
    Calls Try.prog 27 #[v, u] w fun e w' => ∃ r, e = .returned (.tuple #[r, .bool (okWord l way)]) ∧ w'.ownsRow w.heap.size 3 1 r (wordL l way).length (ints (wordL l way)) ∧ Below w.heap.size w w' := by
  obtain ⟨i0, hi, hz0, hz1', hz2'⟩ := info_parts info_wi
  have HV := Lib.hid (show ∀ W, Below w.heap.size w W → RSys W v l from fun W hb => hv.below hb)
  have HU := Lib.hid (show ∀ W, Below w.heap.size w W → RA3 W u way from fun W hb => hu.below hb)
  obtain ⟨D, e, rfl, _, _⟩ := hu
  obtain ⟨sv, tv, rfl, hsv, htv⟩ := hv
  obtain ⟨A, c, rfl, _⟩ := hsv.form
  obtain ⟨B, d, rfl, _, _⟩ := htv
  obtain ⟨W0, hW0⟩ : ∃ W0, W0 = (w.alloc (.cells #[.slice A l.states.length c, .slice B l.steps.length d] 32)) := ⟨_, rfl⟩
  have hz : Below w.heap.size w W0 := by rw [hW0]; exact (Below.refl _ _).alloc (Nat.le_refl _) _
  have hbx : W0.heap[w.heap.size]? = some (.cells #[.slice A l.states.length c, .slice B l.steps.length d] 32) := by rw [hW0]; exact heap_alloc_new _ _
  have x0 := cell_regrown (cell_of_row W0 w.heap.size 0 _ _ _ hbx)
  have x1 := cell_regrown (cell_of_row W0 w.heap.size 1 _ _ _ hbx)
  have HZ := Lib.hid hz
  have HW0 := Lib.hid hW0
  have HBX := Lib.hid hbx
  have cg := fun d os => Calls.regrown_of (isSystem_any _ l (grow (redrawn W0 d) os) hs (HV.out _ (hz.trans ((below_regrown W0 d os).mono hz.size))))
  have cw := fun d os => Calls.regrown_of (isWay_any _ _ l (way.getD 0 (0, 0, 0)).1 way (grow (redrawn W0 d) os) hs (HV.out _ (hz.trans ((below_regrown W0 d os).mono hz.size))) hwn (HU.out _ (hz.trans ((below_regrown W0 d os).mono hz.size))))
  clear hsv hz hW0 hbx
  cases hg : goodSys l
  · have E1 := Lib.hid (show okWord l way = false by simp [okWord, hg])
    have E2 := Lib.hid (show wordL l way = [] by simp [wordL, E1.out])
    rw [hg] at cg
    have CG := Lib.hid cg
    have CW := Lib.hid cw
    clear hg cg cw
    go_enter Try.func27, Try.ntmps27
    go_wp2_with fail
    rw [← HW0.out]
    refine wp_region_quiet_below (by kernel_rfl) (by kernel_rfl) ?_
    refine quiet_cut 17 (fun K17 k17 => ?_)
    simp only [List.take_succ_cons, List.take_zero, List.drop_succ_cons, List.drop_zero] at k17 ⊢
    refine quiet_cut 16 (fun K16 k16 => ?_)
    simp only [List.take_succ_cons, List.take_zero, List.drop_succ_cons, List.drop_zero] at k16 ⊢
    refine quiet_cut 15 (fun K15 k15 => ?_)
    simp only [List.take_succ_cons, List.take_zero, List.drop_succ_cons, List.drop_zero] at k15 ⊢
    refine quiet_cut 14 (fun K14 k14 => ?_)
    simp only [List.take_succ_cons, List.take_zero, List.drop_succ_cons, List.drop_zero] at k14 ⊢
    refine quiet_cut 13 (fun K13 k13 => ?_)
    simp only [List.take_succ_cons, List.take_zero, List.drop_succ_cons, List.drop_zero] at k13 ⊢
    refine quiet_cut 12 (fun K12 k12 => ?_)
    simp only [List.take_succ_cons, List.take_zero, List.drop_succ_cons, List.drop_zero] at k12 ⊢
    refine quiet_cut 11 (fun K11 k11 => ?_)
    simp only [List.take_succ_cons, List.take_zero, List.drop_succ_cons, List.drop_zero] at k11 ⊢
    refine quiet_cut 10 (fun K10 k10 => ?_)
    simp only [List.take_succ_cons, List.take_zero, List.drop_succ_cons, List.drop_zero] at k10 ⊢
    refine quiet_cut 9 (fun K9 k9 => ?_)
    simp only [List.take_succ_cons, List.take_zero, List.drop_succ_cons, List.drop_zero] at k9 ⊢
    refine quiet_cut 8 (fun K8 k8 => ?_)
    simp only [List.take_succ_cons, List.take_zero, List.drop_succ_cons, List.drop_zero] at k8 ⊢
    refine quiet_cut 7 (fun K7 k7 => ?_)
    simp only [List.take_succ_cons, List.take_zero, List.drop_succ_cons, List.drop_zero] at k7 ⊢
    refine quiet_cut 6 (fun K6 k6 => ?_)
    simp only [List.take_succ_cons, List.take_zero, List.drop_succ_cons, List.drop_zero] at k6 ⊢
    refine quiet_cut 5 (fun K5 k5 => ?_)
    simp only [List.take_succ_cons, List.take_zero, List.drop_succ_cons, List.drop_zero] at k5 ⊢
    refine quiet_cut 4 (fun K4 k4 => ?_)
    simp only [List.take_succ_cons, List.take_zero, List.drop_succ_cons, List.drop_zero] at k4 ⊢
    quiet_step (first | exact CG.out _ _ | exact CW.out _ _)
    quiet_step (first | exact CG.out _ _ | exact CW.out _ _)
    quiet_step (first | exact CG.out _ _ | exact CW.out _ _)
    quiet_step (first | exact CG.out _ _ | exact CW.out _ _)
    refine wpQuiet_nil ?_
    refine k4 _ ?_
    quiet_step (first | exact CG.out _ _ | exact CW.out _ _)
    refine wpQuiet_nil ?_
    refine k5 _ ?_
    quiet_step (first | exact CG.out _ _ | exact CW.out _ _)
    refine wpQuiet_nil ?_
    refine k6 _ ?_
    quiet_step (first | exact CG.out _ _ | exact CW.out _ _)
    refine wpQuiet_nil ?_
    refine k7 _ ?_
    quiet_step (first | exact CG.out _ _ | exact CW.out _ _)
    refine wpQuiet_nil ?_
    refine k8 _ ?_
    quiet_step (first | exact CG.out _ _ | exact CW.out _ _)
    refine wpQuiet_nil ?_
    refine k9 _ ?_
    quiet_step (first | exact CG.out _ _ | exact CW.out _ _)
    refine wpQuiet_nil ?_
    refine k10 _ ?_
    quiet_step (first | exact CG.out _ _ | exact CW.out _ _)
    refine wpQuiet_nil ?_
    refine k11 _ ?_
    quiet_step (first | exact CG.out _ _ | exact CW.out _ _)
    refine wpQuiet_nil ?_
    refine k12 _ ?_
    quiet_step (first | exact CG.out _ _ | exact CW.out _ _)
    refine wpQuiet_nil ?_
    refine k13 _ ?_
    quiet_step (first | exact CG.out _ _ | exact CW.out _ _)
    refine wpQuiet_nil ?_
    refine k14 _ ?_
    quiet_step (first | exact CG.out _ _ | exact CW.out _ _)
    refine wpQuiet_nil ?_
    refine k15 _ ?_
    quiet_step (first | exact CG.out _ _ | exact CW.out _ _)
    refine wpQuiet_nil ?_
    refine k16 _ ?_
    quiet_step (first | exact CG.out _ _ | exact CW.out _ _)
    refine wpQuiet_nil ?_
    refine k17 _ ?_
    quiet_step (first | exact CG.out _ _ | exact CW.out _ _)
    refine wpQuiet_nil ?_
    intro wG hw'
    have hb : Below W0.heap.size W0 wG := by
      obtain ⟨pG, rfl⟩ := hw'
      exact below_regrown _ _ _
    clear hw'
    have hz1 := HZ.out.trans (hb.mono HZ.out.size)
    go_wp2_with fail
    go_ret2
    rw [E1.out, E2.out]
    exact ⟨_, rfl, World.ownsRow_nil _ _ _ _, hz1⟩
  rw [hg] at cg
  have CG := Lib.hid cg
  clear cg
  by_cases hl : way.length = 0
  · have hw0 : way = [] := List.eq_nil_of_length_eq_zero hl
    have E1 := Lib.hid (show okWord l way = true by simp [okWord, hg, hw0])
    have E2 := Lib.hid (show wordL l way = [] by simp [wordL, E1.out, hw0])
    have CW := Lib.hid cw
    clear hg cw
    subst hw0
    clear hl
    go_enter Try.func27, Try.ntmps27
    go_wp2_with fail
    rw [← HW0.out]
    refine wp_region_quiet_below (by kernel_rfl) (by kernel_rfl) ?_
    refine quiet_cut 17 (fun K17 k17 => ?_)
    simp only [List.take_succ_cons, List.take_zero, List.drop_succ_cons, List.drop_zero] at k17 ⊢
    refine quiet_cut 16 (fun K16 k16 => ?_)
    simp only [List.take_succ_cons, List.take_zero, List.drop_succ_cons, List.drop_zero] at k16 ⊢
    refine quiet_cut 15 (fun K15 k15 => ?_)
    simp only [List.take_succ_cons, List.take_zero, List.drop_succ_cons, List.drop_zero] at k15 ⊢
    refine quiet_cut 14 (fun K14 k14 => ?_)
    simp only [List.take_succ_cons, List.take_zero, List.drop_succ_cons, List.drop_zero] at k14 ⊢
    refine quiet_cut 13 (fun K13 k13 => ?_)
    simp only [List.take_succ_cons, List.take_zero, List.drop_succ_cons, List.drop_zero] at k13 ⊢
    refine quiet_cut 12 (fun K12 k12 => ?_)
    simp only [List.take_succ_cons, List.take_zero, List.drop_succ_cons, List.drop_zero] at k12 ⊢
    refine quiet_cut 11 (fun K11 k11 => ?_)
    simp only [List.take_succ_cons, List.take_zero, List.drop_succ_cons, List.drop_zero] at k11 ⊢
    refine quiet_cut 10 (fun K10 k10 => ?_)
    simp only [List.take_succ_cons, List.take_zero, List.drop_succ_cons, List.drop_zero] at k10 ⊢
    refine quiet_cut 9 (fun K9 k9 => ?_)
    simp only [List.take_succ_cons, List.take_zero, List.drop_succ_cons, List.drop_zero] at k9 ⊢
    refine quiet_cut 8 (fun K8 k8 => ?_)
    simp only [List.take_succ_cons, List.take_zero, List.drop_succ_cons, List.drop_zero] at k8 ⊢
    refine quiet_cut 7 (fun K7 k7 => ?_)
    simp only [List.take_succ_cons, List.take_zero, List.drop_succ_cons, List.drop_zero] at k7 ⊢
    refine quiet_cut 6 (fun K6 k6 => ?_)
    simp only [List.take_succ_cons, List.take_zero, List.drop_succ_cons, List.drop_zero] at k6 ⊢
    refine quiet_cut 5 (fun K5 k5 => ?_)
    simp only [List.take_succ_cons, List.take_zero, List.drop_succ_cons, List.drop_zero] at k5 ⊢
    refine quiet_cut 4 (fun K4 k4 => ?_)
    simp only [List.take_succ_cons, List.take_zero, List.drop_succ_cons, List.drop_zero] at k4 ⊢
    quiet_step (first | exact CG.out _ _ | exact CW.out _ _)
    quiet_step (first | exact CG.out _ _ | exact CW.out _ _)
    quiet_step (first | exact CG.out _ _ | exact CW.out _ _)
    quiet_step (first | exact CG.out _ _ | exact CW.out _ _)
    refine wpQuiet_nil ?_
    refine k4 _ ?_
    quiet_step (first | exact CG.out _ _ | exact CW.out _ _)
    refine wpQuiet_nil ?_
    refine k5 _ ?_
    quiet_step (first | exact CG.out _ _ | exact CW.out _ _)
    refine wpQuiet_nil ?_
    refine k6 _ ?_
    quiet_step (first | exact CG.out _ _ | exact CW.out _ _)
    refine wpQuiet_nil ?_
    refine k7 _ ?_
    quiet_step (first | exact CG.out _ _ | exact CW.out _ _)
    refine wpQuiet_nil ?_
    refine k8 _ ?_
    quiet_step (first | exact CG.out _ _ | exact CW.out _ _)
    refine wpQuiet_nil ?_
    refine k9 _ ?_
    quiet_step (first | exact CG.out _ _ | exact CW.out _ _)
    refine wpQuiet_nil ?_
    refine k10 _ ?_
    quiet_step (first | exact CG.out _ _ | exact CW.out _ _)
    refine wpQuiet_nil ?_
    refine k11 _ ?_
    quiet_step (first | exact CG.out _ _ | exact CW.out _ _)
    refine wpQuiet_nil ?_
    refine k12 _ ?_
    quiet_step (first | exact CG.out _ _ | exact CW.out _ _)
    refine wpQuiet_nil ?_
    refine k13 _ ?_
    quiet_step (first | exact CG.out _ _ | exact CW.out _ _)
    refine wpQuiet_nil ?_
    refine k14 _ ?_
    quiet_step (first | exact CG.out _ _ | exact CW.out _ _)
    refine wpQuiet_nil ?_
    refine k15 _ ?_
    quiet_step (first | exact CG.out _ _ | exact CW.out _ _)
    refine wpQuiet_nil ?_
    refine k16 _ ?_
    quiet_step (first | exact CG.out _ _ | exact CW.out _ _)
    refine wpQuiet_nil ?_
    refine k17 _ ?_
    quiet_step (first | exact CG.out _ _ | exact CW.out _ _)
    refine wpQuiet_nil ?_
    intro wG hw'
    have hb : Below W0.heap.size W0 wG := by
      obtain ⟨pG, rfl⟩ := hw'
      exact below_regrown _ _ _
    clear hw'
    have hz1 := HZ.out.trans (hb.mono HZ.out.size)
    have ho := owns_mono (owns_zero wG 3) hz1.size
    have hzA : Below w.heap.size w (wG.alloc (.cells #[] 3)) := hz1.alloc hz1.size _
    go_wp2_with fail
    go_loopw [6, 30] (fun u i wr => i = .int .i64 0 ∧ wr.ownsRow w.heap.size 3 1 u 0 [] ∧ Below w.heap.size w wr) (fun _ _ _ => 0)
    case atStart => exact ⟨rfl, ho, hzA⟩
    case round =>
      clear ho hzA
      obtain ⟨rfl, ho, hbel⟩ := hrel
      have HO := Lib.hid ho
      clear ho
      go_wp2_with fail
      go_ret2
      rw [E1.out, E2.out]
      exact ⟨_, rfl, HO.out, hbel⟩
  have hpos : 0 < way.length := by omega
  obtain ⟨b, o, c', ee, h0, _, _⟩ := (HU.out W0 HZ.out).at_ (List.getElem?_eq_getElem hpos)
  cases ee
  have hgd : way.getD 0 (0, 0, 0) = way[0] := by simp [List.getD, hpos]
  rw [← hgd] at h0
  rw [Nat.zero_mul, Nat.add_zero] at h0
  have h0 := cell_regrown h0
  have hlp : (0 : Int) < (way.length : Int) := by omega
  have hwne : way.isEmpty = false := by cases way with | nil => simp at hpos | cons _ _ => rfl
  cases hwb : wayB l.steps (way.getD 0 (0, 0, 0)).1 way
  · have E0 : (goodSys l && (way.isEmpty || wayB l.steps (way.getD 0 (0, 0, 0)).1 way)) = false := by rw [hg, hwne, hwb]; rfl
    have E1' : okWord l way = false := E0
    have E1 := Lib.hid E1'
    clear E1' E0
    have E2 := Lib.hid (show wordL l way = [] by simp [wordL, E1.out])
    rw [hwb] at cw
    have CW := Lib.hid cw
    clear hg cw hwb hgd
    generalize (way.getD 0 (0, 0, 0)).1 = p0 at *
    go_enter Try.func27, Try.ntmps27
    go_wp2_with fail
    rw [← HW0.out]
    refine wp_region_quiet_below (by kernel_rfl) (by kernel_rfl) ?_
    refine quiet_cut 17 (fun K17 k17 => ?_)
    simp only [List.take_succ_cons, List.take_zero, List.drop_succ_cons, List.drop_zero] at k17 ⊢
    refine quiet_cut 16 (fun K16 k16 => ?_)
    simp only [List.take_succ_cons, List.take_zero, List.drop_succ_cons, List.drop_zero] at k16 ⊢
    refine quiet_cut 15 (fun K15 k15 => ?_)
    simp only [List.take_succ_cons, List.take_zero, List.drop_succ_cons, List.drop_zero] at k15 ⊢
    refine quiet_cut 14 (fun K14 k14 => ?_)
    simp only [List.take_succ_cons, List.take_zero, List.drop_succ_cons, List.drop_zero] at k14 ⊢
    refine quiet_cut 13 (fun K13 k13 => ?_)
    simp only [List.take_succ_cons, List.take_zero, List.drop_succ_cons, List.drop_zero] at k13 ⊢
    refine quiet_cut 12 (fun K12 k12 => ?_)
    simp only [List.take_succ_cons, List.take_zero, List.drop_succ_cons, List.drop_zero] at k12 ⊢
    refine quiet_cut 11 (fun K11 k11 => ?_)
    simp only [List.take_succ_cons, List.take_zero, List.drop_succ_cons, List.drop_zero] at k11 ⊢
    refine quiet_cut 10 (fun K10 k10 => ?_)
    simp only [List.take_succ_cons, List.take_zero, List.drop_succ_cons, List.drop_zero] at k10 ⊢
    refine quiet_cut 9 (fun K9 k9 => ?_)
    simp only [List.take_succ_cons, List.take_zero, List.drop_succ_cons, List.drop_zero] at k9 ⊢
    refine quiet_cut 8 (fun K8 k8 => ?_)
    simp only [List.take_succ_cons, List.take_zero, List.drop_succ_cons, List.drop_zero] at k8 ⊢
    refine quiet_cut 7 (fun K7 k7 => ?_)
    simp only [List.take_succ_cons, List.take_zero, List.drop_succ_cons, List.drop_zero] at k7 ⊢
    refine quiet_cut 6 (fun K6 k6 => ?_)
    simp only [List.take_succ_cons, List.take_zero, List.drop_succ_cons, List.drop_zero] at k6 ⊢
    refine quiet_cut 5 (fun K5 k5 => ?_)
    simp only [List.take_succ_cons, List.take_zero, List.drop_succ_cons, List.drop_zero] at k5 ⊢
    refine quiet_cut 4 (fun K4 k4 => ?_)
    simp only [List.take_succ_cons, List.take_zero, List.drop_succ_cons, List.drop_zero] at k4 ⊢
    quiet_step (first | exact CG.out _ _ | exact CW.out _ _)
    quiet_step (first | exact CG.out _ _ | exact CW.out _ _)
    quiet_step (first | exact CG.out _ _ | exact CW.out _ _)
    quiet_step (first | exact CG.out _ _ | exact CW.out _ _)
    refine wpQuiet_nil ?_
    refine k4 _ ?_
    quiet_step (first | exact CG.out _ _ | exact CW.out _ _)
    refine wpQuiet_nil ?_
    refine k5 _ ?_
    quiet_step (first | exact CG.out _ _ | exact CW.out _ _)
    refine wpQuiet_nil ?_
    refine k6 _ ?_
    quiet_step (first | exact CG.out _ _ | exact CW.out _ _)
    refine wpQuiet_nil ?_
    refine k7 _ ?_
    quiet_step (first | exact CG.out _ _ | exact CW.out _ _)
    refine wpQuiet_nil ?_
    refine k8 _ ?_
    quiet_step (first | exact CG.out _ _ | exact CW.out _ _)
    refine wpQuiet_nil ?_
    refine k9 _ ?_
    quiet_step (first | exact CG.out _ _ | exact CW.out _ _)
    refine wpQuiet_nil ?_
    refine k10 _ ?_
    quiet_step (first | exact CG.out _ _ | exact CW.out _ _)
    refine wpQuiet_nil ?_
    refine k11 _ ?_
    quiet_step (first | exact CG.out _ _ | exact CW.out _ _)
    refine wpQuiet_nil ?_
    refine k12 _ ?_
    quiet_step (first | exact CG.out _ _ | exact CW.out _ _)
    refine wpQuiet_nil ?_
    refine k13 _ ?_
    quiet_step (first | exact CG.out _ _ | exact CW.out _ _)
    refine wpQuiet_nil ?_
    refine k14 _ ?_
    quiet_step (first | exact CG.out _ _ | exact CW.out _ _)
    refine wpQuiet_nil ?_
    refine k15 _ ?_
    quiet_step (first | exact CG.out _ _ | exact CW.out _ _)
    refine wpQuiet_nil ?_
    refine k16 _ ?_
    quiet_step (first | exact CG.out _ _ | exact CW.out _ _)
    refine wpQuiet_nil ?_
    refine k17 _ ?_
    quiet_step (first | exact CG.out _ _ | exact CW.out _ _)
    refine wpQuiet_nil ?_
    intro wG hw'
    have hb : Below W0.heap.size W0 wG := by
      obtain ⟨pG, rfl⟩ := hw'
      exact below_regrown _ _ _
    clear hw'
    have hz1 := HZ.out.trans (hb.mono HZ.out.size)
    go_wp2_with fail
    go_ret2
    rw [E1.out, E2.out]
    exact ⟨_, rfl, World.ownsRow_nil _ _ _ _, hz1⟩
  have E0 : (goodSys l && (way.isEmpty || wayB l.steps (way.getD 0 (0, 0, 0)).1 way)) = true := by rw [hg, hwne, hwb]; rfl
  have E1' : okWord l way = true := E0
  have E1 := Lib.hid E1'
  clear E1' E0
  have E2 := Lib.hid (show wordL l way = way.map (fun s => s.2.1) by simp [wordL, E1.out])
  rw [hwb] at cw
  have CW := Lib.hid cw
  clear hg cw hwb hgd
  generalize (way.getD 0 (0, 0, 0)).1 = p0 at *
  go_enter Try.func27, Try.ntmps27
  go_wp2_with fail
  rw [← HW0.out]
  refine wp_region_quiet_below (by kernel_rfl) (by kernel_rfl) ?_
  refine quiet_cut 17 (fun K17 k17 => ?_)
  simp only [List.take_succ_cons, List.take_zero, List.drop_succ_cons, List.drop_zero] at k17 ⊢
  refine quiet_cut 16 (fun K16 k16 => ?_)
  simp only [List.take_succ_cons, List.take_zero, List.drop_succ_cons, List.drop_zero] at k16 ⊢
  refine quiet_cut 15 (fun K15 k15 => ?_)
  simp only [List.take_succ_cons, List.take_zero, List.drop_succ_cons, List.drop_zero] at k15 ⊢
  refine quiet_cut 14 (fun K14 k14 => ?_)
  simp only [List.take_succ_cons, List.take_zero, List.drop_succ_cons, List.drop_zero] at k14 ⊢
  refine quiet_cut 13 (fun K13 k13 => ?_)
  simp only [List.take_succ_cons, List.take_zero, List.drop_succ_cons, List.drop_zero] at k13 ⊢
  refine quiet_cut 12 (fun K12 k12 => ?_)
  simp only [List.take_succ_cons, List.take_zero, List.drop_succ_cons, List.drop_zero] at k12 ⊢
  refine quiet_cut 11 (fun K11 k11 => ?_)
  simp only [List.take_succ_cons, List.take_zero, List.drop_succ_cons, List.drop_zero] at k11 ⊢
  refine quiet_cut 10 (fun K10 k10 => ?_)
  simp only [List.take_succ_cons, List.take_zero, List.drop_succ_cons, List.drop_zero] at k10 ⊢
  refine quiet_cut 9 (fun K9 k9 => ?_)
  simp only [List.take_succ_cons, List.take_zero, List.drop_succ_cons, List.drop_zero] at k9 ⊢
  refine quiet_cut 8 (fun K8 k8 => ?_)
  simp only [List.take_succ_cons, List.take_zero, List.drop_succ_cons, List.drop_zero] at k8 ⊢
  refine quiet_cut 7 (fun K7 k7 => ?_)
  simp only [List.take_succ_cons, List.take_zero, List.drop_succ_cons, List.drop_zero] at k7 ⊢
  refine quiet_cut 6 (fun K6 k6 => ?_)
  simp only [List.take_succ_cons, List.take_zero, List.drop_succ_cons, List.drop_zero] at k6 ⊢
  refine quiet_cut 5 (fun K5 k5 => ?_)
  simp only [List.take_succ_cons, List.take_zero, List.drop_succ_cons, List.drop_zero] at k5 ⊢
  refine quiet_cut 4 (fun K4 k4 => ?_)
  simp only [List.take_succ_cons, List.take_zero, List.drop_succ_cons, List.drop_zero] at k4 ⊢
  quiet_step (first | exact CG.out _ _ | exact CW.out _ _)
  quiet_step (first | exact CG.out _ _ | exact CW.out _ _)
  quiet_step (first | exact CG.out _ _ | exact CW.out _ _)
  quiet_step (first | exact CG.out _ _ | exact CW.out _ _)
  refine wpQuiet_nil ?_
  refine k4 _ ?_
  quiet_step (first | exact CG.out _ _ | exact CW.out _ _)
  refine wpQuiet_nil ?_
  refine k5 _ ?_
  quiet_step (first | exact CG.out _ _ | exact CW.out _ _)
  refine wpQuiet_nil ?_
  refine k6 _ ?_
  quiet_step (first | exact CG.out _ _ | exact CW.out _ _)
  refine wpQuiet_nil ?_
  refine k7 _ ?_
  quiet_step (first | exact CG.out _ _ | exact CW.out _ _)
  refine wpQuiet_nil ?_
  refine k8 _ ?_
  quiet_step (first | exact CG.out _ _ | exact CW.out _ _)
  refine wpQuiet_nil ?_
  refine k9 _ ?_
  quiet_step (first | exact CG.out _ _ | exact CW.out _ _)
  refine wpQuiet_nil ?_
  refine k10 _ ?_
  quiet_step (first | exact CG.out _ _ | exact CW.out _ _)
  refine wpQuiet_nil ?_
  refine k11 _ ?_
  quiet_step (first | exact CG.out _ _ | exact CW.out _ _)
  refine wpQuiet_nil ?_
  refine k12 _ ?_
  quiet_step (first | exact CG.out _ _ | exact CW.out _ _)
  refine wpQuiet_nil ?_
  refine k13 _ ?_
  quiet_step (first | exact CG.out _ _ | exact CW.out _ _)
  refine wpQuiet_nil ?_
  refine k14 _ ?_
  quiet_step (first | exact CG.out _ _ | exact CW.out _ _)
  refine wpQuiet_nil ?_
  refine k15 _ ?_
  quiet_step (first | exact CG.out _ _ | exact CW.out _ _)
  refine wpQuiet_nil ?_
  refine k16 _ ?_
  quiet_step (first | exact CG.out _ _ | exact CW.out _ _)
  refine wpQuiet_nil ?_
  refine k17 _ ?_
  quiet_step (first | exact CG.out _ _ | exact CW.out _ _)
  refine wpQuiet_nil ?_
  intro wG hw'
  have hb : Below W0.heap.size W0 wG := by
    obtain ⟨pG, rfl⟩ := hw'
    exact below_regrown _ _ _
  clear hw'
  have hz1 := HZ.out.trans (hb.mono HZ.out.size)
  have ho := owns_mono (owns_zero wG 3) hz1.size
  have hzA : Below w.heap.size w (wG.alloc (.cells #[] 3)) := hz1.alloc hz1.size _
  go_wp2_with fail
  go_loopw [6, 30] (fun u i wr => ∃ k : Nat, k ≤ way.length ∧ i = .int .i64 k ∧ wr.ownsRow w.heap.size 3 1 u k (ints ((way.take k).map (fun s => s.2.1))) ∧ Below w.heap.size w wr) (fun _ i _ => way.length - (intOf i).toNat)
  case atStart => exact ⟨0, Nat.zero_le _, rfl, ho, hzA⟩
  case round =>
    clear ho hzA
    obtain ⟨k, hk, rfl, hown, hbel⟩ := hrel
    obtain ⟨AO, cO, rfl, hown⟩ := owns_form hown
    have HO := Lib.hid hown
    have HBE := Lib.hid hbel
    have hsz := hbel.size
    by_cases hlt : k < way.length
    · obtain ⟨b9, o9, c9, e9, n0, n1, n2⟩ := (HU.out wr hbel).at_ (List.getElem?_eq_getElem hlt)
      cases e9
      have htk : (way.take (k + 1)).map (fun s => s.2.1) = (way.take k).map (fun s => s.2.1) ++ [way[k].2.1] := by rw [List.take_succ_eq_append_getElem hlt, List.map_append]; rfl
      obtain ⟨lk, hlk⟩ : ∃ lk, lk = (way.take k).map (fun s => s.2.1) := ⟨_, rfl⟩
      rw [← hlk] at htk hown
      have HO := Lib.hid hown
      have HTK := Lib.hid htk
      clear hlk
      clear htk hown hbel
      generalize way[k] = s at *
      have b0 : (0 : Int) ≤ (k : Int) := by omega
      have b1 : (k : Int) < (way.length : Int) := by omega
      go_wp2_with (at_builtin; refine wpList_append_own _ rfl _ _ 41 rfl w.heap.size 3 i0 (.int .i64 0) 1 8 Try.underlying41 hi hz0 hz1' hz2' rfl (by decide) _ _ _ rfl ((HO.out.alloc _).alloc _) ⟨wr.heap.size + 1, 0, none⟩ 1 1 [.int .i64 s.2.1] rfl rfl ?c1 ?c2 ?c3 ?c4 ?c5 ?_)
      case c1 => intro j u hj; match j, hj with | 0, hj => (simp at hj; subst hj; simp [Addr.add])
      case c2 => intro u hu; simp at hu; subst hu; rfl
      case c3 => unfold maxLen; omega
      case c4 => omega
      case c5 => simp; omega
      intro v2 w2 hown2 hgrow2 _
      have hints : ints lk ++ [.int .i64 s.2.1] = ints ((way.take (k + 1)).map (fun s => s.2.1)) := by rw [HTK.out]; simp [ints]
      rw [hints] at hown2
      have HO2 := Lib.hid hown2
      have HG2 := Lib.hid (((HBE.out.alloc hsz _).alloc (by simp; omega) _).grown hgrow2 (by simp; omega) (fun q hq => (HO.out.lt q hq).1))
      clear hown2 hgrow2 hints
      go_wp2
      go_roundw
      case rel => exact ⟨k + 1, by omega, by go_num, HO2.out, HG2.out⟩
      case measure => simp [intOf]; omega
    · obtain rfl : k = way.length := by omega
      rw [List.take_length] at HO
      clear hown
      go_wp2_with fail
      go_ret2
      rw [E1.out, E2.out]
      exact ⟨_, rfl, by rw [List.length_map]; exact HO.out, hbel⟩

set_option maxRecDepth 100000 in
set_option maxHeartbeats 8000000 in
theorem specRuleWord_any (v u : Value) (l : Sys) (way : List I3) (w : World) (hs : SmallSys l) (hv : RSys w v l) (hwn : way.length ≤ 16777216) (hu : RA3 w u way) :
    Calls Try.prog 26 #[v, u] w fun e w' => ∃ r, e = .returned (.tuple #[r, .bool (okWord l way)]) ∧ w'.ownsRow w.heap.size 3 1 r (wordL l way).length (ints (wordL l way)) ∧ Below w.heap.size w w' := by
  obtain ⟨i0, hi, hz0, hz1', hz2'⟩ := info_parts info_wi
  have HV := Lib.hid (show ∀ W, Below w.heap.size w W → RSys W v l from fun W hb => hv.below hb)
  have HU := Lib.hid (show ∀ W, Below w.heap.size w W → RA3 W u way from fun W hb => hu.below hb)
  obtain ⟨D, e, rfl, _, _⟩ := hu
  obtain ⟨sv, tv, rfl, hsv, htv⟩ := hv
  obtain ⟨A, c, rfl, _⟩ := hsv.form
  obtain ⟨B, d, rfl, _, _⟩ := htv
  obtain ⟨W0, hW0⟩ : ∃ W0, W0 = ((w.alloc (.cells #[.slice A l.states.length c, .slice B l.steps.length d] 32)).alloc (.cells #[] 3)) := ⟨_, rfl⟩
  have hz : Below w.heap.size w W0 := by rw [hW0]; exact ((Below.refl _ _).alloc (Nat.le_refl _) _).alloc (by simp) _
  have hbx : W0.heap[w.heap.size]? = some (.cells #[.slice A l.states.length c, .slice B l.steps.length d] 32) := by rw [hW0]; exact (heap_alloc_old _ _ (by simp)).trans (heap_alloc_new _ _)
  have x0 := cell_regrown (cell_of_row W0 w.heap.size 0 _ _ _ hbx)
  have x1 := cell_regrown (cell_of_row W0 w.heap.size 1 _ _ _ hbx)
  have HOUT := Lib.hid (show W0.ownsRow w.heap.size 3 1 (.slice (some ⟨w.heap.size + 1, 0, none⟩) 0 0) 0 [] by
    have := owns_zero (w.alloc (.cells #[.slice A l.states.length c, .slice B l.steps.length d] 32)) 3
    rw [World.size_alloc] at this
    rw [hW0]
    exact owns_mono this (by omega))
  have HZ := Lib.hid hz
  have HW0 := Lib.hid hW0
  have HBX := Lib.hid hbx
  have cg := fun d os => Calls.regrown_of (l10Good_any _ l (grow (redrawn W0 d) os) hs (HV.out _ (hz.trans ((below_regrown W0 d os).mono hz.size))))
  have cw := fun d os => Calls.regrown_of (l10Way_any _ _ l (way.getD 0 (0, 0, 0)).1 way (grow (redrawn W0 d) os) hs (HV.out _ (hz.trans ((below_regrown W0 d os).mono hz.size))) hwn (HU.out _ (hz.trans ((below_regrown W0 d os).mono hz.size))))
  clear hsv hz hW0 hbx
  cases hg : goodSys l
  · have E1 := Lib.hid (show okWord l way = false by simp [okWord, hg])
    have E2 := Lib.hid (show wordL l way = [] by simp [wordL, E1.out])
    rw [hg] at cg
    have CG := Lib.hid cg
    have CW := Lib.hid cw
    clear hg cg cw
    go_enter Try.func26, Try.ntmps26
    go_wp2_with fail
    rw [← HW0.out]
    refine wp_region_quiet_below (by kernel_rfl) (by kernel_rfl) ?_
    refine quiet_cut 17 (fun K17 k17 => ?_)
    simp only [List.take_succ_cons, List.take_zero, List.drop_succ_cons, List.drop_zero] at k17 ⊢
    refine quiet_cut 16 (fun K16 k16 => ?_)
    simp only [List.take_succ_cons, List.take_zero, List.drop_succ_cons, List.drop_zero] at k16 ⊢
    refine quiet_cut 15 (fun K15 k15 => ?_)
    simp only [List.take_succ_cons, List.take_zero, List.drop_succ_cons, List.drop_zero] at k15 ⊢
    refine quiet_cut 14 (fun K14 k14 => ?_)
    simp only [List.take_succ_cons, List.take_zero, List.drop_succ_cons, List.drop_zero] at k14 ⊢
    refine quiet_cut 13 (fun K13 k13 => ?_)
    simp only [List.take_succ_cons, List.take_zero, List.drop_succ_cons, List.drop_zero] at k13 ⊢
    refine quiet_cut 12 (fun K12 k12 => ?_)
    simp only [List.take_succ_cons, List.take_zero, List.drop_succ_cons, List.drop_zero] at k12 ⊢
    refine quiet_cut 11 (fun K11 k11 => ?_)
    simp only [List.take_succ_cons, List.take_zero, List.drop_succ_cons, List.drop_zero] at k11 ⊢
    refine quiet_cut 10 (fun K10 k10 => ?_)
    simp only [List.take_succ_cons, List.take_zero, List.drop_succ_cons, List.drop_zero] at k10 ⊢
    refine quiet_cut 9 (fun K9 k9 => ?_)
    simp only [List.take_succ_cons, List.take_zero, List.drop_succ_cons, List.drop_zero] at k9 ⊢
    refine quiet_cut 8 (fun K8 k8 => ?_)
    simp only [List.take_succ_cons, List.take_zero, List.drop_succ_cons, List.drop_zero] at k8 ⊢
    refine quiet_cut 7 (fun K7 k7 => ?_)
    simp only [List.take_succ_cons, List.take_zero, List.drop_succ_cons, List.drop_zero] at k7 ⊢
    refine quiet_cut 6 (fun K6 k6 => ?_)
    simp only [List.take_succ_cons, List.take_zero, List.drop_succ_cons, List.drop_zero] at k6 ⊢
    refine quiet_cut 5 (fun K5 k5 => ?_)
    simp only [List.take_succ_cons, List.take_zero, List.drop_succ_cons, List.drop_zero] at k5 ⊢
    refine quiet_cut 4 (fun K4 k4 => ?_)
    simp only [List.take_succ_cons, List.take_zero, List.drop_succ_cons, List.drop_zero] at k4 ⊢
    quiet_step (first | exact CG.out _ _ | exact CW.out _ _)
    quiet_step (first | exact CG.out _ _ | exact CW.out _ _)
    quiet_step (first | exact CG.out _ _ | exact CW.out _ _)
    quiet_step (first | exact CG.out _ _ | exact CW.out _ _)
    refine wpQuiet_nil ?_
    refine k4 _ ?_
    quiet_step (first | exact CG.out _ _ | exact CW.out _ _)
    refine wpQuiet_nil ?_
    refine k5 _ ?_
    quiet_step (first | exact CG.out _ _ | exact CW.out _ _)
    refine wpQuiet_nil ?_
    refine k6 _ ?_
    quiet_step (first | exact CG.out _ _ | exact CW.out _ _)
    refine wpQuiet_nil ?_
    refine k7 _ ?_
    quiet_step (first | exact CG.out _ _ | exact CW.out _ _)
    refine wpQuiet_nil ?_
    refine k8 _ ?_
    quiet_step (first | exact CG.out _ _ | exact CW.out _ _)
    refine wpQuiet_nil ?_
    refine k9 _ ?_
    quiet_step (first | exact CG.out _ _ | exact CW.out _ _)
    refine wpQuiet_nil ?_
    refine k10 _ ?_
    quiet_step (first | exact CG.out _ _ | exact CW.out _ _)
    refine wpQuiet_nil ?_
    refine k11 _ ?_
    quiet_step (first | exact CG.out _ _ | exact CW.out _ _)
    refine wpQuiet_nil ?_
    refine k12 _ ?_
    quiet_step (first | exact CG.out _ _ | exact CW.out _ _)
    refine wpQuiet_nil ?_
    refine k13 _ ?_
    quiet_step (first | exact CG.out _ _ | exact CW.out _ _)
    refine wpQuiet_nil ?_
    refine k14 _ ?_
    quiet_step (first | exact CG.out _ _ | exact CW.out _ _)
    refine wpQuiet_nil ?_
    refine k15 _ ?_
    quiet_step (first | exact CG.out _ _ | exact CW.out _ _)
    refine wpQuiet_nil ?_
    refine k16 _ ?_
    quiet_step (first | exact CG.out _ _ | exact CW.out _ _)
    refine wpQuiet_nil ?_
    refine k17 _ ?_
    quiet_step (first | exact CG.out _ _ | exact CW.out _ _)
    refine wpQuiet_nil ?_
    intro wG hw'
    have hb : Below W0.heap.size W0 wG := by
      obtain ⟨pG, rfl⟩ := hw'
      exact below_regrown _ _ _
    clear hw'
    have hz1 := HZ.out.trans (hb.mono HZ.out.size)
    go_wp2_with fail
    go_ret2
    rw [E1.out, E2.out]
    exact ⟨_, rfl, owns_below HOUT.out hb (Nat.le_refl _), hz1⟩
  rw [hg] at cg
  have CG := Lib.hid cg
  clear cg
  by_cases hl : way.length = 0
  · have hw0 : way = [] := List.eq_nil_of_length_eq_zero hl
    have E1 := Lib.hid (show okWord l way = true by simp [okWord, hg, hw0])
    have E2 := Lib.hid (show wordL l way = [] by simp [wordL, E1.out, hw0])
    have CW := Lib.hid cw
    clear hg cw
    subst hw0
    clear hl
    go_enter Try.func26, Try.ntmps26
    go_wp2_with fail
    rw [← HW0.out]
    refine wp_region_quiet_below (by kernel_rfl) (by kernel_rfl) ?_
    refine quiet_cut 17 (fun K17 k17 => ?_)
    simp only [List.take_succ_cons, List.take_zero, List.drop_succ_cons, List.drop_zero] at k17 ⊢
    refine quiet_cut 16 (fun K16 k16 => ?_)
    simp only [List.take_succ_cons, List.take_zero, List.drop_succ_cons, List.drop_zero] at k16 ⊢
    refine quiet_cut 15 (fun K15 k15 => ?_)
    simp only [List.take_succ_cons, List.take_zero, List.drop_succ_cons, List.drop_zero] at k15 ⊢
    refine quiet_cut 14 (fun K14 k14 => ?_)
    simp only [List.take_succ_cons, List.take_zero, List.drop_succ_cons, List.drop_zero] at k14 ⊢
    refine quiet_cut 13 (fun K13 k13 => ?_)
    simp only [List.take_succ_cons, List.take_zero, List.drop_succ_cons, List.drop_zero] at k13 ⊢
    refine quiet_cut 12 (fun K12 k12 => ?_)
    simp only [List.take_succ_cons, List.take_zero, List.drop_succ_cons, List.drop_zero] at k12 ⊢
    refine quiet_cut 11 (fun K11 k11 => ?_)
    simp only [List.take_succ_cons, List.take_zero, List.drop_succ_cons, List.drop_zero] at k11 ⊢
    refine quiet_cut 10 (fun K10 k10 => ?_)
    simp only [List.take_succ_cons, List.take_zero, List.drop_succ_cons, List.drop_zero] at k10 ⊢
    refine quiet_cut 9 (fun K9 k9 => ?_)
    simp only [List.take_succ_cons, List.take_zero, List.drop_succ_cons, List.drop_zero] at k9 ⊢
    refine quiet_cut 8 (fun K8 k8 => ?_)
    simp only [List.take_succ_cons, List.take_zero, List.drop_succ_cons, List.drop_zero] at k8 ⊢
    refine quiet_cut 7 (fun K7 k7 => ?_)
    simp only [List.take_succ_cons, List.take_zero, List.drop_succ_cons, List.drop_zero] at k7 ⊢
    refine quiet_cut 6 (fun K6 k6 => ?_)
    simp only [List.take_succ_cons, List.take_zero, List.drop_succ_cons, List.drop_zero] at k6 ⊢
    refine quiet_cut 5 (fun K5 k5 => ?_)
    simp only [List.take_succ_cons, List.take_zero, List.drop_succ_cons, List.drop_zero] at k5 ⊢
    refine quiet_cut 4 (fun K4 k4 => ?_)
    simp only [List.take_succ_cons, List.take_zero, List.drop_succ_cons, List.drop_zero] at k4 ⊢
    quiet_step (first | exact CG.out _ _ | exact CW.out _ _)
    quiet_step (first | exact CG.out _ _ | exact CW.out _ _)
    quiet_step (first | exact CG.out _ _ | exact CW.out _ _)
    quiet_step (first | exact CG.out _ _ | exact CW.out _ _)
    refine wpQuiet_nil ?_
    refine k4 _ ?_
    quiet_step (first | exact CG.out _ _ | exact CW.out _ _)
    refine wpQuiet_nil ?_
    refine k5 _ ?_
    quiet_step (first | exact CG.out _ _ | exact CW.out _ _)
    refine wpQuiet_nil ?_
    refine k6 _ ?_
    quiet_step (first | exact CG.out _ _ | exact CW.out _ _)
    refine wpQuiet_nil ?_
    refine k7 _ ?_
    quiet_step (first | exact CG.out _ _ | exact CW.out _ _)
    refine wpQuiet_nil ?_
    refine k8 _ ?_
    quiet_step (first | exact CG.out _ _ | exact CW.out _ _)
    refine wpQuiet_nil ?_
    refine k9 _ ?_
    quiet_step (first | exact CG.out _ _ | exact CW.out _ _)
    refine wpQuiet_nil ?_
    refine k10 _ ?_
    quiet_step (first | exact CG.out _ _ | exact CW.out _ _)
    refine wpQuiet_nil ?_
    refine k11 _ ?_
    quiet_step (first | exact CG.out _ _ | exact CW.out _ _)
    refine wpQuiet_nil ?_
    refine k12 _ ?_
    quiet_step (first | exact CG.out _ _ | exact CW.out _ _)
    refine wpQuiet_nil ?_
    refine k13 _ ?_
    quiet_step (first | exact CG.out _ _ | exact CW.out _ _)
    refine wpQuiet_nil ?_
    refine k14 _ ?_
    quiet_step (first | exact CG.out _ _ | exact CW.out _ _)
    refine wpQuiet_nil ?_
    refine k15 _ ?_
    quiet_step (first | exact CG.out _ _ | exact CW.out _ _)
    refine wpQuiet_nil ?_
    refine k16 _ ?_
    quiet_step (first | exact CG.out _ _ | exact CW.out _ _)
    refine wpQuiet_nil ?_
    refine k17 _ ?_
    quiet_step (first | exact CG.out _ _ | exact CW.out _ _)
    refine wpQuiet_nil ?_
    intro wG hw'
    have hb : Below W0.heap.size W0 wG := by
      obtain ⟨pG, rfl⟩ := hw'
      exact below_regrown _ _ _
    clear hw'
    have hz1 := HZ.out.trans (hb.mono HZ.out.size)
    have ho := owns_below HOUT.out hb (Nat.le_refl _)
    have hzA := hz1
    go_wp2_with fail
    go_loopw [6, 7] (fun u i wr => i = .int .i64 0 ∧ wr.ownsRow w.heap.size 3 1 u 0 [] ∧ Below w.heap.size w wr) (fun _ _ _ => 0)
    case atStart => exact ⟨rfl, ho, hzA⟩
    case round =>
      clear ho hzA
      obtain ⟨rfl, ho, hbel⟩ := hrel
      have HO := Lib.hid ho
      clear ho
      go_wp2_with fail
      go_ret2
      rw [E1.out, E2.out]
      exact ⟨_, rfl, HO.out, hbel⟩
  have hpos : 0 < way.length := by omega
  obtain ⟨b, o, c', ee, h0, _, _⟩ := (HU.out W0 HZ.out).at_ (List.getElem?_eq_getElem hpos)
  cases ee
  have hgd : way.getD 0 (0, 0, 0) = way[0] := by simp [List.getD, hpos]
  rw [← hgd] at h0
  rw [Nat.zero_mul, Nat.add_zero] at h0
  have h0 := cell_regrown h0
  have hlp : (0 : Int) < (way.length : Int) := by omega
  have hwne : way.isEmpty = false := by cases way with | nil => simp at hpos | cons _ _ => rfl
  cases hwb : wayB l.steps (way.getD 0 (0, 0, 0)).1 way
  · have E0 : (goodSys l && (way.isEmpty || wayB l.steps (way.getD 0 (0, 0, 0)).1 way)) = false := by rw [hg, hwne, hwb]; rfl
    have E1' : okWord l way = false := E0
    have E1 := Lib.hid E1'
    clear E1' E0
    have E2 := Lib.hid (show wordL l way = [] by simp [wordL, E1.out])
    rw [hwb] at cw
    have CW := Lib.hid cw
    clear hg cw hwb hgd
    generalize (way.getD 0 (0, 0, 0)).1 = p0 at *
    go_enter Try.func26, Try.ntmps26
    go_wp2_with fail
    rw [← HW0.out]
    refine wp_region_quiet_below (by kernel_rfl) (by kernel_rfl) ?_
    refine quiet_cut 17 (fun K17 k17 => ?_)
    simp only [List.take_succ_cons, List.take_zero, List.drop_succ_cons, List.drop_zero] at k17 ⊢
    refine quiet_cut 16 (fun K16 k16 => ?_)
    simp only [List.take_succ_cons, List.take_zero, List.drop_succ_cons, List.drop_zero] at k16 ⊢
    refine quiet_cut 15 (fun K15 k15 => ?_)
    simp only [List.take_succ_cons, List.take_zero, List.drop_succ_cons, List.drop_zero] at k15 ⊢
    refine quiet_cut 14 (fun K14 k14 => ?_)
    simp only [List.take_succ_cons, List.take_zero, List.drop_succ_cons, List.drop_zero] at k14 ⊢
    refine quiet_cut 13 (fun K13 k13 => ?_)
    simp only [List.take_succ_cons, List.take_zero, List.drop_succ_cons, List.drop_zero] at k13 ⊢
    refine quiet_cut 12 (fun K12 k12 => ?_)
    simp only [List.take_succ_cons, List.take_zero, List.drop_succ_cons, List.drop_zero] at k12 ⊢
    refine quiet_cut 11 (fun K11 k11 => ?_)
    simp only [List.take_succ_cons, List.take_zero, List.drop_succ_cons, List.drop_zero] at k11 ⊢
    refine quiet_cut 10 (fun K10 k10 => ?_)
    simp only [List.take_succ_cons, List.take_zero, List.drop_succ_cons, List.drop_zero] at k10 ⊢
    refine quiet_cut 9 (fun K9 k9 => ?_)
    simp only [List.take_succ_cons, List.take_zero, List.drop_succ_cons, List.drop_zero] at k9 ⊢
    refine quiet_cut 8 (fun K8 k8 => ?_)
    simp only [List.take_succ_cons, List.take_zero, List.drop_succ_cons, List.drop_zero] at k8 ⊢
    refine quiet_cut 7 (fun K7 k7 => ?_)
    simp only [List.take_succ_cons, List.take_zero, List.drop_succ_cons, List.drop_zero] at k7 ⊢
    refine quiet_cut 6 (fun K6 k6 => ?_)
    simp only [List.take_succ_cons, List.take_zero, List.drop_succ_cons, List.drop_zero] at k6 ⊢
    refine quiet_cut 5 (fun K5 k5 => ?_)
    simp only [List.take_succ_cons, List.take_zero, List.drop_succ_cons, List.drop_zero] at k5 ⊢
    refine quiet_cut 4 (fun K4 k4 => ?_)
    simp only [List.take_succ_cons, List.take_zero, List.drop_succ_cons, List.drop_zero] at k4 ⊢
    quiet_step (first | exact CG.out _ _ | exact CW.out _ _)
    quiet_step (first | exact CG.out _ _ | exact CW.out _ _)
    quiet_step (first | exact CG.out _ _ | exact CW.out _ _)
    quiet_step (first | exact CG.out _ _ | exact CW.out _ _)
    refine wpQuiet_nil ?_
    refine k4 _ ?_
    quiet_step (first | exact CG.out _ _ | exact CW.out _ _)
    refine wpQuiet_nil ?_
    refine k5 _ ?_
    quiet_step (first | exact CG.out _ _ | exact CW.out _ _)
    refine wpQuiet_nil ?_
    refine k6 _ ?_
    quiet_step (first | exact CG.out _ _ | exact CW.out _ _)
    refine wpQuiet_nil ?_
    refine k7 _ ?_
    quiet_step (first | exact CG.out _ _ | exact CW.out _ _)
    refine wpQuiet_nil ?_
    refine k8 _ ?_
    quiet_step (first | exact CG.out _ _ | exact CW.out _ _)
    refine wpQuiet_nil ?_
    refine k9 _ ?_
    quiet_step (first | exact CG.out _ _ | exact CW.out _ _)
    refine wpQuiet_nil ?_
    refine k10 _ ?_
    quiet_step (first | exact CG.out _ _ | exact CW.out _ _)
    refine wpQuiet_nil ?_
    refine k11 _ ?_
    quiet_step (first | exact CG.out _ _ | exact CW.out _ _)
    refine wpQuiet_nil ?_
    refine k12 _ ?_
    quiet_step (first | exact CG.out _ _ | exact CW.out _ _)
    refine wpQuiet_nil ?_
    refine k13 _ ?_
    quiet_step (first | exact CG.out _ _ | exact CW.out _ _)
    refine wpQuiet_nil ?_
    refine k14 _ ?_
    quiet_step (first | exact CG.out _ _ | exact CW.out _ _)
    refine wpQuiet_nil ?_
    refine k15 _ ?_
    quiet_step (first | exact CG.out _ _ | exact CW.out _ _)
    refine wpQuiet_nil ?_
    refine k16 _ ?_
    quiet_step (first | exact CG.out _ _ | exact CW.out _ _)
    refine wpQuiet_nil ?_
    refine k17 _ ?_
    quiet_step (first | exact CG.out _ _ | exact CW.out _ _)
    refine wpQuiet_nil ?_
    intro wG hw'
    have hb : Below W0.heap.size W0 wG := by
      obtain ⟨pG, rfl⟩ := hw'
      exact below_regrown _ _ _
    clear hw'
    have hz1 := HZ.out.trans (hb.mono HZ.out.size)
    go_wp2_with fail
    go_ret2
    rw [E1.out, E2.out]
    exact ⟨_, rfl, owns_below HOUT.out hb (Nat.le_refl _), hz1⟩
  have E0 : (goodSys l && (way.isEmpty || wayB l.steps (way.getD 0 (0, 0, 0)).1 way)) = true := by rw [hg, hwne, hwb]; rfl
  have E1' : okWord l way = true := E0
  have E1 := Lib.hid E1'
  clear E1' E0
  have E2 := Lib.hid (show wordL l way = way.map (fun s => s.2.1) by simp [wordL, E1.out])
  rw [hwb] at cw
  have CW := Lib.hid cw
  clear hg cw hwb hgd
  generalize (way.getD 0 (0, 0, 0)).1 = p0 at *
  go_enter Try.func26, Try.ntmps26
  go_wp2_with fail
  rw [← HW0.out]
  refine wp_region_quiet_below (by kernel_rfl) (by kernel_rfl) ?_
  refine quiet_cut 17 (fun K17 k17 => ?_)
  simp only [List.take_succ_cons, List.take_zero, List.drop_succ_cons, List.drop_zero] at k17 ⊢
  refine quiet_cut 16 (fun K16 k16 => ?_)
  simp only [List.take_succ_cons, List.take_zero, List.drop_succ_cons, List.drop_zero] at k16 ⊢
  refine quiet_cut 15 (fun K15 k15 => ?_)
  simp only [List.take_succ_cons, List.take_zero, List.drop_succ_cons, List.drop_zero] at k15 ⊢
  refine quiet_cut 14 (fun K14 k14 => ?_)
  simp only [List.take_succ_cons, List.take_zero, List.drop_succ_cons, List.drop_zero] at k14 ⊢
  refine quiet_cut 13 (fun K13 k13 => ?_)
  simp only [List.take_succ_cons, List.take_zero, List.drop_succ_cons, List.drop_zero] at k13 ⊢
  refine quiet_cut 12 (fun K12 k12 => ?_)
  simp only [List.take_succ_cons, List.take_zero, List.drop_succ_cons, List.drop_zero] at k12 ⊢
  refine quiet_cut 11 (fun K11 k11 => ?_)
  simp only [List.take_succ_cons, List.take_zero, List.drop_succ_cons, List.drop_zero] at k11 ⊢
  refine quiet_cut 10 (fun K10 k10 => ?_)
  simp only [List.take_succ_cons, List.take_zero, List.drop_succ_cons, List.drop_zero] at k10 ⊢
  refine quiet_cut 9 (fun K9 k9 => ?_)
  simp only [List.take_succ_cons, List.take_zero, List.drop_succ_cons, List.drop_zero] at k9 ⊢
  refine quiet_cut 8 (fun K8 k8 => ?_)
  simp only [List.take_succ_cons, List.take_zero, List.drop_succ_cons, List.drop_zero] at k8 ⊢
  refine quiet_cut 7 (fun K7 k7 => ?_)
  simp only [List.take_succ_cons, List.take_zero, List.drop_succ_cons, List.drop_zero] at k7 ⊢
  refine quiet_cut 6 (fun K6 k6 => ?_)
  simp only [List.take_succ_cons, List.take_zero, List.drop_succ_cons, List.drop_zero] at k6 ⊢
  refine quiet_cut 5 (fun K5 k5 => ?_)
  simp only [List.take_succ_cons, List.take_zero, List.drop_succ_cons, List.drop_zero] at k5 ⊢
  refine quiet_cut 4 (fun K4 k4 => ?_)
  simp only [List.take_succ_cons, List.take_zero, List.drop_succ_cons, List.drop_zero] at k4 ⊢
  quiet_step (first | exact CG.out _ _ | exact CW.out _ _)
  quiet_step (first | exact CG.out _ _ | exact CW.out _ _)
  quiet_step (first | exact CG.out _ _ | exact CW.out _ _)
  quiet_step (first | exact CG.out _ _ | exact CW.out _ _)
  refine wpQuiet_nil ?_
  refine k4 _ ?_
  quiet_step (first | exact CG.out _ _ | exact CW.out _ _)
  refine wpQuiet_nil ?_
  refine k5 _ ?_
  quiet_step (first | exact CG.out _ _ | exact CW.out _ _)
  refine wpQuiet_nil ?_
  refine k6 _ ?_
  quiet_step (first | exact CG.out _ _ | exact CW.out _ _)
  refine wpQuiet_nil ?_
  refine k7 _ ?_
  quiet_step (first | exact CG.out _ _ | exact CW.out _ _)
  refine wpQuiet_nil ?_
  refine k8 _ ?_
  quiet_step (first | exact CG.out _ _ | exact CW.out _ _)
  refine wpQuiet_nil ?_
  refine k9 _ ?_
  quiet_step (first | exact CG.out _ _ | exact CW.out _ _)
  refine wpQuiet_nil ?_
  refine k10 _ ?_
  quiet_step (first | exact CG.out _ _ | exact CW.out _ _)
  refine wpQuiet_nil ?_
  refine k11 _ ?_
  quiet_step (first | exact CG.out _ _ | exact CW.out _ _)
  refine wpQuiet_nil ?_
  refine k12 _ ?_
  quiet_step (first | exact CG.out _ _ | exact CW.out _ _)
  refine wpQuiet_nil ?_
  refine k13 _ ?_
  quiet_step (first | exact CG.out _ _ | exact CW.out _ _)
  refine wpQuiet_nil ?_
  refine k14 _ ?_
  quiet_step (first | exact CG.out _ _ | exact CW.out _ _)
  refine wpQuiet_nil ?_
  refine k15 _ ?_
  quiet_step (first | exact CG.out _ _ | exact CW.out _ _)
  refine wpQuiet_nil ?_
  refine k16 _ ?_
  quiet_step (first | exact CG.out _ _ | exact CW.out _ _)
  refine wpQuiet_nil ?_
  refine k17 _ ?_
  quiet_step (first | exact CG.out _ _ | exact CW.out _ _)
  refine wpQuiet_nil ?_
  intro wG hw'
  have hb : Below W0.heap.size W0 wG := by
    obtain ⟨pG, rfl⟩ := hw'
    exact below_regrown _ _ _
  clear hw'
  have hz1 := HZ.out.trans (hb.mono HZ.out.size)
  have ho := owns_below HOUT.out hb (Nat.le_refl _)
  have hzA := hz1
  go_wp2_with fail
  go_loopw [6, 7] (fun u i wr => ∃ k : Nat, k ≤ way.length ∧ i = .int .i64 k ∧ wr.ownsRow w.heap.size 3 1 u k (ints ((way.take k).map (fun s => s.2.1))) ∧ Below w.heap.size w wr) (fun _ i _ => way.length - (intOf i).toNat)
  case atStart => exact ⟨0, Nat.zero_le _, rfl, ho, hzA⟩
  case round =>
    clear ho hzA
    obtain ⟨k, hk, rfl, hown, hbel⟩ := hrel
    obtain ⟨AO, cO, rfl, hown⟩ := owns_form hown
    have HO := Lib.hid hown
    have HBE := Lib.hid hbel
    have hsz := hbel.size
    by_cases hlt : k < way.length
    · obtain ⟨b9, o9, c9, e9, n0, n1, n2⟩ := (HU.out wr hbel).at_ (List.getElem?_eq_getElem hlt)
      cases e9
      have htk : (way.take (k + 1)).map (fun s => s.2.1) = (way.take k).map (fun s => s.2.1) ++ [way[k].2.1] := by rw [List.take_succ_eq_append_getElem hlt, List.map_append]; rfl
      obtain ⟨lk, hlk⟩ : ∃ lk, lk = (way.take k).map (fun s => s.2.1) := ⟨_, rfl⟩
      rw [← hlk] at htk hown
      have HO := Lib.hid hown
      have HTK := Lib.hid htk
      clear hlk
      clear htk hown hbel
      generalize way[k] = s at *
      have b0 : (0 : Int) ≤ (k : Int) := by omega
      have b1 : (k : Int) < (way.length : Int) := by omega
      go_wp2_with (at_builtin; refine wpList_append_own _ rfl _ _ 41 rfl w.heap.size 3 i0 (.int .i64 0) 1 8 Try.underlying41 hi hz0 hz1' hz2' rfl (by decide) _ _ _ rfl (HO.out.alloc _) ⟨wr.heap.size, 0, none⟩ 1 1 [.int .i64 s.2.1] rfl rfl ?c1 ?c2 ?c3 ?c4 ?c5 ?_)
      case c1 => intro j u hj; match j, hj with | 0, hj => (simp at hj; subst hj; simp [Addr.add])
      case c2 => intro u hu; simp at hu; subst hu; rfl
      case c3 => unfold maxLen; omega
      case c4 => omega
      case c5 => simp; omega
      intro v2 w2 hown2 hgrow2 _
      have hints : ints lk ++ [.int .i64 s.2.1] = ints ((way.take (k + 1)).map (fun s => s.2.1)) := by rw [HTK.out]; simp [ints]
      rw [hints] at hown2
      have HO2 := Lib.hid hown2
      have HG2 := Lib.hid ((HBE.out.alloc hsz _).grown hgrow2 (by simp; omega) (fun q hq => (HO.out.lt q hq).1))
      clear hown2 hgrow2 hints
      go_wp2
      go_roundw
      case rel => exact ⟨k + 1, by omega, by go_num, HO2.out, HG2.out⟩
      case measure => simp [intOf]; omega
    · obtain rfl : k = way.length := by omega
      rw [List.take_length] at HO
      clear hown
      go_wp2_with fail
      go_ret2
      rw [E1.out, E2.out]
      exact ⟨_, rfl, by rw [List.length_map]; exact HO.out, hbel⟩

end Go.Proofs.Yteljknidcaoeoaa
