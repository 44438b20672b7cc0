/- The law that program and reference agree on what a process of ambients is, walked. -/
import Derived.Test.YtoofnicpjgmneaaDoorProg
import Derived.Test.YtoofnicpjgmneaaDoorIsProc
import Derived.Deep.RegionHeld3
set_option linter.unusedVariables false
namespace Go.Proofs.YtoofnicpjgmneaaDoor
open Go.RowKit

set_option maxHeartbeats 400000 in
theorem specIsProcess_any (v : Value) (l : List Nd) (w : World) (hv : RProc w v l) (hs : ∀ x ∈ l, x.2.1.size ≤ maxLen) (hn : l.length ≤ 16777216) :
    Calls Tryd.prog 7 #[v] w fun e w' => e = .returned (.bool (procB l)) ∧ Below w.heap.size w w' := by
  have hb1 : ∀ o, Below w.heap.size w (w.alloc o) := fun o => (Below.refl _ _).alloc (Nat.le_refl _) o
  have H := Lib.hid (fun o => l12Good_any v l (w.alloc o) (hv.below (hb1 o)) hs hn)
  obtain ⟨sv, rfl, hsv⟩ := hv
  go_enter Tryd.func7, Tryd.ntmps7
  go_wp2_with fail
  refine (H.out _).mono ?_
  rintro e w1 ⟨rfl, hb⟩
  go_wp2_with fail
  go_ret
  exact ⟨rfl, (hb1 _).trans (hb.mono (hb1 _).size)⟩

theorem RProc.drew {w : World} {v : Value} {l : List Nd} (h : RProc w v l) : RProc w.drew v l := by
  obtain ⟨sv, e, A, c, css, e2, h1, h2, h3, h4, h5⟩ := h
  exact ⟨sv, e, A, c, css, e2, h1, h2, h3, h4, h5⟩

theorem Own.rproc {w : World} {S : Nat → Prop} {v : Value} {l : List Nd} (h : Own w S v l.length (l.flatMap encN)) (hn : l.length ≤ 16777216) : RProc w (.agg #[v]) l :=
  ⟨v, rfl, h.rn hn⟩

set_option maxHeartbeats 1000000 in
theorem lawIsProcess (v : Value) (l : List Nd) (w : World) (hv : RProc w v l) (hs : ∀ x ∈ l, x.2.1.size ≤ maxLen) :
    Calls Tryd.prog 3 #[v] w fun e w' => e = .returned (.bool true) ∧ Below w.heap.size w w' := by
  have hb1 : ∀ o, Below w.heap.size w (w.alloc o) := fun o => (Below.refl _ _).alloc (Nat.le_refl _) o
  have HS := Lib.hid (fun o => szProcess_any v l 1048576 (w.alloc o) (by decide) (by decide) (hv.below (hb1 o)) hs)
  have hng := szNd_neg l 1048576 (by decide)
  obtain ⟨sv, rfl, hsv⟩ := id hv
  by_cases hz : szNd l 1048576 < 0
  · have hz' : szNd l 1048576 = -1 := by omega
    rw [hz'] at HS
    clear hz hz' hng hv hsv
    go_enter Tryd.func3, Tryd.ntmps3
    go_wp2_with fail
    refine (HS.out _).mono ?_
    rintro e w1 ⟨rfl, hb⟩
    go_wp2_with fail
    go_ret
    exact ⟨rfl, (hb1 _).trans (hb.mono (hb1 _).size)⟩
  · have hn : l.length ≤ 16777216 := by omega
    have hpos : 0 ≤ szNd l 1048576 := by omega
    generalize szNd l 1048576 = z at *
    clear hng
    have HV := Lib.hid (show ∀ W, Below w.heap.size w W → RProc W (.agg #[sv]) l from fun W hb => hv.below hb)
    have HR := Lib.hid (sameT_refl l)
    clear hv hsv
    go_enter Tryd.func3, Tryd.ntmps3
    go_wp2_with fail
    refine (HS.out _).mono ?_
    rintro e w1 ⟨rfl, hb⟩
    have HB1 := Lib.hid ((hb1 _).trans (hb.mono (hb1 _).size))
    have q1 := cell_of_row w1 _ 0 _ _ _ (one_box hb).1
    clear hb hb1
    go_wp2_with fail
    refine (toProcess_any _ l w1 (HV.out _ HB1.out) hn).mono ?_
    rintro e w2 ⟨v2, rfl, ho2, hb2⟩
    have HB2 := Lib.hid (HB1.out.trans (hb2.mono HB1.out.size))
    have HR2 := Lib.hid (ho2.rproc hn)
    have q2 := cell_below hb2 q1 (lt_of_cell q1)
    clear ho2 hb2
    go_wp2_with fail
    refine (specIsProcess_any _ l w2 HR2.out hs hn).mono ?_
    rintro e w3 ⟨rfl, hb3⟩
    have HB3 := Lib.hid (HB2.out.trans (hb3.mono HB2.out.size))
    have q3 := cell_below hb3 q2 (lt_of_cell q2)
    clear hb3
    go_wp2_with fail
    refine (toProcess_any _ l w3 (HV.out _ HB3.out) hn).mono ?_
    rintro e w4 ⟨v4, rfl, ho4, hb4⟩
    obtain ⟨A4, c4, rfl, _⟩ := id ho4
    have HB4 := Lib.hid (HB3.out.trans (hb4.mono HB3.out.size))
    have HR4 := Lib.hid (ho4.rproc hn)
    have q4 := cell_below hb4 q3 (lt_of_cell q3)
    clear ho4 hb4
    go_wp2_with fail
    have hb4 : ∀ o, Below w4.heap.size w4 (w4.alloc (.cells #[.slice A4 l.length c4] o)) := fun o => (Below.refl _ _).alloc (Nat.le_refl _) _
    have hx4 : ∀ o, (w4.alloc (.cells #[.slice A4 l.length c4] o)).heap[w4.heap.size]? = some (.cells #[.slice A4 l.length c4] o) := fun o => heap_alloc_new _ _
    refine (isProcess_any _ l _ (HR4.out.below (hb4 _)) hs hn).mono ?_
    rintro e w5 ⟨rfl, hb5⟩
    have HB5 := Lib.hid ((HB4.out.trans ((hb4 _).mono HB4.out.size)).trans (hb5.mono (Nat.le_trans HB4.out.size (hb4 _).size)))
    have HR5 := Lib.hid ((HR4.out.below (hb4 _)).below hb5)
    have q5 := cell_below hb5 (cell_below (hb4 _) q4 (lt_of_cell q4)) (Nat.lt_of_lt_of_le (lt_of_cell q4) (hb4 _).size)
    have p5 := cell_below hb5 (cell_of_row _ _ 0 _ _ _ (hx4 _)) (by simp)
    clear hb5 hb4 hx4
    generalize procB l = pb at *
    have hpp : (pb != pb) = false := by simp
    have hpp' : (pb == pb) = true := by simp
    go_wp2_with fail
    go_region_held3 (fun w' => w'.cell? ⟨w4.heap.size, 0, none⟩ = some (.slice A4 l.length c4) ∧ w'.cell? ⟨w.heap.size, 0, none⟩ = some sv)
      (first | go_keep | (have hk := hw6.trans (hw7.mono hw6.size); exact ⟨cell_below hk p5 (lt_of_cell p5), cell_below hk q5 (lt_of_cell q5)⟩) | exact ⟨cell_below hw6 p5 (lt_of_cell p5), cell_below hw6 q5 (lt_of_cell q5)⟩)
      (first
        | (go_at_call 8; refine (toProcess_any _ l _ (HV.out _ HB5.out.drew) hn).mono ?_; rintro e w6 ⟨u6, rfl, hu6, hw6⟩)
        | (go_at_call 10; refine (eqProcess_any _ _ l l _ (HR5.out.drew.below hw6) (hu6.rproc hn) hn hn).mono ?_; rintro e w7 ⟨rfl, hw7⟩))
    have HF := Lib.hid ((HB5.out.drew.trans (hw6.mono HB5.out.drew.size)).trans (hw7.mono (Nat.le_trans HB5.out.drew.size hw6.size)))
    clear hw6 hw7
    rw [HR.out]
    simp only [Bool.not_true]
    go_wp2_with fail
    go_ret
    exact ⟨rfl, HF.out⟩

end Go.Proofs.YtoofnicpjgmneaaDoor
