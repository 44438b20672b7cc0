/- The law that program and reference agree on the ambients that a process shows, walked. -/
import Derived.Test.YtoofnicpjgmneaaDoorProg
import Derived.Test.YtoofnicpjgmneaaDoorShows
import Derived.Deep.RegionHeld3
set_option linter.unusedVariables false
namespace Go.Proofs.YtoofnicpjgmneaaDoor
open Go.RowKit

def showOk (l : List Nd) (name : ByteArray) : Bool := procB l && nameB name
def showA (l : List Nd) (name : ByteArray) : Bool := if showOk l name then anyR l.length (showsP l name) else false

set_option maxHeartbeats 1000000 in
theorem specShows_any (v : Value) (l : List Nd) (name : ByteArray) (w : World) (hv : RProc w v l) (hs : ∀ x ∈ l, x.2.1.size ≤ maxLen) (hn : l.length ≤ 16777216) (hsz : name.size ≤ maxLen) :
    Calls Tryd.prog 13 #[v, .string name] w fun e w' => e = .returned (.tuple #[.bool (showA l name), .bool (showOk l name)]) ∧ Below w.heap.size w w' := by
  have hb1 : ∀ o, Below w.heap.size w (w.alloc o) := fun o => (Below.refl _ _).alloc (Nat.le_refl _) o
  have HV := Lib.hid (show ∀ W, Below w.heap.size w W → RProc W v l from fun W hb => hv.below hb)
  obtain ⟨sv, rfl, hsv⟩ := hv
  clear hsv
  by_cases hg : procB l = true
  · by_cases hi : nameB name = true
    · have hok : showOk l name = true := by unfold showOk; rw [hg, hi]; rfl
      have ha : showA l name = anyR l.length (showsP l name) := by unfold showA; rw [hok, if_pos rfl]
      rw [ha, hok]
      clear ha
      go_enter Tryd.func13, Tryd.ntmps13
      go_wp2_with fail
      refine (l12Good_any _ l _ (HV.out _ (hb1 _)) hs hn).mono ?_
      rintro e w1 ⟨rfl, hw1⟩
      have q1 := cell_of_row w1 _ 0 _ _ _ (one_box hw1).1
      have HB1 := Lib.hid ((hb1 _).trans (hw1.mono (hb1 _).size))
      clear hw1 hb1
      rw [hg]
      go_wp2_with fail
      refine (l2Name_any name _ hsz).mono ?_
      rintro e w2 ⟨rfl, rfl⟩
      have q2 := q1
      have HB2 := HB1
      rw [hi]
      go_wp2_with fail
      refine (l12Shows_any _ l name _ (HV.out _ HB2.out) hn).mono ?_
      rintro e w3 ⟨rfl, hw3⟩
      have HB3 := Lib.hid (HB2.out.trans (hw3.mono HB2.out.size))
      clear hw3
      go_wp2_with fail
      go_ret2
      exact ⟨rfl, HB3.out⟩
    · have hi : nameB name = false := by simpa using hi
      have hok : showOk l name = false := by unfold showOk; rw [hg, hi]; rfl
      have ha : showA l name = false := by unfold showA; rw [hok]; rfl
      rw [ha, hok]
      go_enter Tryd.func13, Tryd.ntmps13
      go_wp2_with fail
      refine (l12Good_any _ l _ (HV.out _ (hb1 _)) hs hn).mono ?_
      rintro e w1 ⟨rfl, hw1⟩
      have q1 := cell_of_row w1 _ 0 _ _ _ (one_box hw1).1
      have HB1 := Lib.hid ((hb1 _).trans (hw1.mono (hb1 _).size))
      clear hw1 hb1
      rw [hg]
      go_wp2_with fail
      refine (l2Name_any name _ hsz).mono ?_
      rintro e w2 ⟨rfl, rfl⟩
      have q2 := q1
      have HB2 := HB1
      rw [hi]
      go_wp2_with fail
      go_ret2
      exact ⟨rfl, HB2.out⟩
  · have hg : procB l = false := by simpa using hg
    have hok : showOk l name = false := by unfold showOk; rw [hg]; rfl
    have ha : showA l name = false := by unfold showA; rw [hok]; rfl
    rw [ha, hok]
    go_enter Tryd.func13, Tryd.ntmps13
    go_wp2_with fail
    refine (l12Good_any _ l _ (HV.out _ (hb1 _)) hs hn).mono ?_
    rintro e w1 ⟨rfl, hw1⟩
    have q1 := cell_of_row w1 _ 0 _ _ _ (one_box hw1).1
    have HB1 := Lib.hid ((hb1 _).trans (hw1.mono (hb1 _).size))
    clear hw1 hb1
    rw [hg]
    go_wp2_with fail
    go_ret2
    exact ⟨rfl, HB1.out⟩

set_option maxHeartbeats 1000000 in
theorem implShows_any (v : Value) (l : List Nd) (name : ByteArray) (w : World) (hv : RProc w v l) (hs : ∀ x ∈ l, x.2.1.size ≤ maxLen) (hn : l.length ≤ 16777216) (hsz : name.size ≤ maxLen) :
    Calls Tryd.prog 14 #[v, .string name] w fun e w' => e = .returned (.tuple #[.bool (showA l name), .bool (showOk l name)]) ∧ Below w.heap.size w w' := by
  have hb1 : ∀ o, Below w.heap.size w (w.alloc o) := fun o => (Below.refl _ _).alloc (Nat.le_refl _) o
  have HV := Lib.hid (show ∀ W, Below w.heap.size w W → RProc W v l from fun W hb => hv.below hb)
  obtain ⟨sv, rfl, hsv⟩ := hv
  clear hsv
  by_cases hg : procB l = true
  · by_cases hi : nameB name = true
    · have hok : showOk l name = true := by unfold showOk; rw [hg, hi]; rfl
      have ha : showA l name = anyR l.length (showsP l name) := by unfold showA; rw [hok, if_pos rfl]
      rw [ha, hok]
      clear ha
      go_enter Tryd.func14, Tryd.ntmps14
      go_wp2_with fail
      refine (isProcess_any _ l _ (HV.out _ (hb1 _)) hs hn).mono ?_
      rintro e w1 ⟨rfl, hw1⟩
      have q1 := cell_of_row w1 _ 0 _ _ _ (one_box hw1).1
      have HB1 := Lib.hid ((hb1 _).trans (hw1.mono (hb1 _).size))
      clear hw1 hb1
      rw [hg]
      go_wp2_with fail
      refine (isName_any name _ hsz).mono ?_
      rintro e w2 ⟨rfl, hw2⟩
      have q2 := cell_below hw2 q1 (lt_of_cell q1)
      have HB2 := Lib.hid (HB1.out.trans (hw2.mono HB1.out.size))
      clear hw2
      rw [hi]
      go_wp2_with fail
      refine (shows_any _ l name _ (HV.out _ HB2.out) hn).mono ?_
      rintro e w3 ⟨rfl, hw3⟩
      have HB3 := Lib.hid (HB2.out.trans (hw3.mono HB2.out.size))
      clear hw3
      go_wp2_with fail
      go_ret2
      exact ⟨rfl, HB3.out⟩
    · have hi : nameB name = false := by simpa using hi
      have hok : showOk l name = false := by unfold showOk; rw [hg, hi]; rfl
      have ha : showA l name = false := by unfold showA; rw [hok]; rfl
      rw [ha, hok]
      go_enter Tryd.func14, Tryd.ntmps14
      go_wp2_with fail
      refine (isProcess_any _ l _ (HV.out _ (hb1 _)) hs hn).mono ?_
      rintro e w1 ⟨rfl, hw1⟩
      have q1 := cell_of_row w1 _ 0 _ _ _ (one_box hw1).1
      have HB1 := Lib.hid ((hb1 _).trans (hw1.mono (hb1 _).size))
      clear hw1 hb1
      rw [hg]
      go_wp2_with fail
      refine (isName_any name _ hsz).mono ?_
      rintro e w2 ⟨rfl, hw2⟩
      have q2 := cell_below hw2 q1 (lt_of_cell q1)
      have HB2 := Lib.hid (HB1.out.trans (hw2.mono HB1.out.size))
      clear hw2
      rw [hi]
      go_wp2_with fail
      go_ret2
      exact ⟨rfl, HB2.out⟩
  · have hg : procB l = false := by simpa using hg
    have hok : showOk l name = false := by unfold showOk; rw [hg]; rfl
    have ha : showA l name = false := by unfold showA; rw [hok]; rfl
    rw [ha, hok]
    go_enter Tryd.func14, Tryd.ntmps14
    go_wp2_with fail
    refine (isProcess_any _ l _ (HV.out _ (hb1 _)) hs hn).mono ?_
    rintro e w1 ⟨rfl, hw1⟩
    have q1 := cell_of_row w1 _ 0 _ _ _ (one_box hw1).1
    have HB1 := Lib.hid ((hb1 _).trans (hw1.mono (hb1 _).size))
    clear hw1 hb1
    rw [hg]
    go_wp2_with fail
    go_ret2
    exact ⟨rfl, HB1.out⟩

set_option maxRecDepth 100000 in
set_option maxHeartbeats 1000000 in
theorem lawShowsAmbient (v : Value) (l : List Nd) (name : ByteArray) (w : World) (hv : RProc w v l) (hs : ∀ x ∈ l, x.2.1.size ≤ maxLen) (hsz : name.size ≤ maxLen) :
    Calls Tryd.prog 5 #[v, .string name] w fun e w' => e = .returned (.bool true) ∧ Below w.heap.size w w' := by
  have hsz' : name.size ≤ 9223372036854775807 := by unfold maxLen at hsz; omega
  have hb1 : ∀ o, Below w.heap.size w (w.alloc o) := fun o => (Below.refl _ _).alloc (Nat.le_refl _) o
  have HS := Lib.hid (fun o => szProcess_any v l 1048576 (w.alloc o) (by decide) (by decide) (hv.below (hb1 o)) hs)
  have hng := szNd_neg l 1048576 (by decide)
  have HV := Lib.hid (show ∀ W, Below w.heap.size w W → RProc W v l from fun W hb => hv.below hb)
  obtain ⟨sv, rfl, hsv⟩ := id hv
  by_cases hlong : (1048576 : Int) < (name.size : Int)
  · clear hv hsv
    go_enter Tryd.func5, Tryd.ntmps5
    go_wp2_with fail
    go_ret
    exact ⟨rfl, hb1 _⟩
  by_cases hz : szNd l 1048576 < 0
  · have hz' : szNd l 1048576 = -1 := by omega
    rw [hz'] at HS
    clear hz hz' hng hv hsv
    go_enter Tryd.func5, Tryd.ntmps5
    go_wp2_with fail
    refine (HS.out _).mono ?_
    rintro e w1 ⟨rfl, hb⟩
    go_wp2_with fail
    go_ret
    exact ⟨rfl, (hb1 _).trans (hb.mono (hb1 _).size)⟩
  · have hn : l.length ≤ 16777216 := by omega
    have hpos : 0 ≤ szNd l 1048576 := by omega
    generalize szNd l 1048576 = z at *
    clear hng
    have HR := Lib.hid (sameT_refl l)
    clear hv hsv
    go_enter Tryd.func5, Tryd.ntmps5
    go_wp2_with fail
    refine (HS.out _).mono ?_
    rintro e w1 ⟨rfl, hb⟩
    have HB1 := Lib.hid ((hb1 _).trans (hb.mono (hb1 _).size))
    have q1 := cell_of_row w1 _ 0 _ _ _ (one_box hb).1
    clear hb hb1
    go_wp2_with fail
    refine (toProcess_any _ l w1 (HV.out _ HB1.out) hn).mono ?_
    rintro e w2 ⟨v2, rfl, ho2, hb2⟩
    have HB2 := Lib.hid (HB1.out.trans (hb2.mono HB1.out.size))
    have HR2 := Lib.hid (ho2.rproc hn)
    have q2 := cell_below hb2 q1 (lt_of_cell q1)
    clear ho2 hb2
    go_wp2_with fail
    refine (specShows_any _ l name w2 HR2.out hs hn hsz).mono ?_
    rintro e w3 ⟨rfl, hb3⟩
    have HB3 := Lib.hid (HB2.out.trans (hb3.mono HB2.out.size))
    have q3 := cell_below hb3 q2 (lt_of_cell q2)
    clear hb3
    go_wp2_with fail
    refine (toProcess_any _ l w3 (HV.out _ HB3.out) hn).mono ?_
    rintro e w4 ⟨v4, rfl, ho4, hb4⟩
    obtain ⟨A4, c4, rfl, _⟩ := id ho4
    have HB4 := Lib.hid (HB3.out.trans (hb4.mono HB3.out.size))
    have HR4 := Lib.hid (ho4.rproc hn)
    have q4 := cell_below hb4 q3 (lt_of_cell q3)
    clear ho4 hb4
    go_wp2_with fail
    have hb4 : ∀ o, Below w4.heap.size w4 (w4.alloc (.cells #[.slice A4 l.length c4] o)) := fun o => (Below.refl _ _).alloc (Nat.le_refl _) _
    have hx4 : ∀ o, (w4.alloc (.cells #[.slice A4 l.length c4] o)).heap[w4.heap.size]? = some (.cells #[.slice A4 l.length c4] o) := fun o => heap_alloc_new _ _
    refine (implShows_any _ l name _ (HR4.out.below (hb4 _)) hs hn hsz).mono ?_
    rintro e w5 ⟨rfl, hb5⟩
    have HB5 := Lib.hid ((HB4.out.trans ((hb4 _).mono HB4.out.size)).trans (hb5.mono (Nat.le_trans HB4.out.size (hb4 _).size)))
    have HR5 := Lib.hid ((HR4.out.below (hb4 _)).below hb5)
    have q5 := cell_below hb5 (cell_below (hb4 _) q4 (lt_of_cell q4)) (Nat.lt_of_lt_of_le (lt_of_cell q4) (hb4 _).size)
    have p5 := cell_below hb5 (cell_of_row _ _ 0 _ _ _ (hx4 _)) (by simp)
    clear hb5 hb4 hx4
    generalize showOk l name = po at *
    generalize showA l name = pb at *
    have hpp : (pb != pb) = false := by simp
    have hpo : (po != po) = false := by simp
    go_wp2_with fail
    go_region_held3 (fun w' => w'.cell? ⟨w4.heap.size, 0, none⟩ = some (.slice A4 l.length c4) ∧ w'.cell? ⟨w.heap.size, 0, none⟩ = some sv)
      (first | go_keep | (have hk := hw6.trans (hw7.mono hw6.size); exact ⟨cell_below hk p5 (lt_of_cell p5), cell_below hk q5 (lt_of_cell q5)⟩) | exact ⟨cell_below hw6 p5 (lt_of_cell p5), cell_below hw6 q5 (lt_of_cell q5)⟩)
      (first
        | (go_at_call 8; refine (toProcess_any _ l _ (HV.out _ HB5.out.drew) hn).mono ?_; rintro e w6 ⟨u6, rfl, hu6, hw6⟩)
        | (go_at_call 10; refine (eqProcess_any _ _ l l _ (HR5.out.drew.below hw6) (hu6.rproc hn) hn hn).mono ?_; rintro e w7 ⟨rfl, hw7⟩))
    have HF := Lib.hid ((HB5.out.drew.trans (hw6.mono HB5.out.drew.size)).trans (hw7.mono (Nat.le_trans HB5.out.drew.size hw6.size)))
    clear hw6 hw7
    rw [HR.out]
    simp only [Bool.not_true]
    go_wp2_with fail
    go_ret
    exact ⟨rfl, HF.out⟩

end Go.Proofs.YtoofnicpjgmneaaDoor
