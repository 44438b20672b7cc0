/- IsLabelled of the program and of the reference, and the walk of the law that they agree. -/
import Derived.Test.YtfbcepdcdoiieaaProg
import Derived.Test.YtfbcepdcdoiieaaGood
import Derived.Test.YtfbcepdcdoiieaaIdx
import Derived.Test.YtfbcepdcdoiieaaLabOwn
import Derived.Deep.RegionHeld3
set_option linter.unusedVariables false
namespace Go.Proofs.Ytfbcepdcdoiieaa
open Go.RowKit

theorem any_not (n : Nat) (p q : Nat → Bool) (h : ∀ k, k < n → p k = !q k) : (!anyR n p) = allR n q := by
  unfold anyR allR
  rw [Bool.eq_iff_iff]
  simp only [Bool.not_eq_true', List.any_eq_false, List.all_eq_true, List.mem_range]
  constructor
  · intro a k hk
    have := a k hk
    rw [h k hk] at this
    simpa using this
  · intro a k hk
    rw [h k hk, a k hk]
    simp

set_option maxHeartbeats 400000 in
theorem isLabelled1_any (A : Option Addr) (c : Nat) (l : List Int) (w : World) (hn : l.length ≤ 16777216) (hA : Cells w A (ints l)) :
    Calls Try.prog 43 #[.slice A l.length c] w fun e w' => e = .returned (.bool (!rising 0 7 l)) ∧ Below w.heap.size w w' := by
  have H := Lib.hid (isRising_any A c l 8 w hn (by omega) (by omega) hA)
  go_enter Try.func43, Try.ntmps43
  go_wp2_with ((with_reducible refine H.out.mono ?_); rintro e w' ⟨rfl, rfl⟩)
  go_ret
  exact ⟨rfl, Below.refl _ _⟩

set_option maxHeartbeats 1000000 in
theorem implIsLabelled_any (v : Value) (l : Lab) (w : World) (hs : SmallLab l) (hv : RLab w v l) :
    Calls Try.prog 16 #[v] w fun e w' => e = .returned (.bool (goodLab l)) ∧ Below w.heap.size w w' := by
  obtain ⟨sv, tv, rfl, hsv, htv⟩ := hv
  have hb1 : ∀ o, Below w.heap.size w (w.alloc o) := fun o => (Below.refl _ _).alloc (Nat.le_refl _) o
  have H1 := Lib.hid (fun n lo hi W => within_any n lo hi W)
  have H2 := Lib.hid (fun o => areSteps_any tv l.steps l.shows.length 8 (w.alloc o) hs.2.1 (by omega) (by have := hs.1; omega) (by omega) (by omega) (htv.below (hb1 o)))
  have hw1 := hs.1
  have hsv' := hsv
  obtain ⟨A, c, vs, rfl, _, hvl, hA, hvi⟩ := hsv
  have hany : ∀ W, Below w.heap.size w W → Calls Try.prog 42 #[.slice A l.shows.length c, .func (.func 43) #[] #[]] W
      fun e w' => e = .returned (.bool (!goodShows l.shows)) ∧ Below W.heap.size W w' := by
    intro W hb
    have hgs : (!goodShows l.shows) = anyR vs.length (fun k => !rising 0 7 (l.shows.getD k [])) := by
      rw [hvl]
      unfold goodShows
      rw [← any_not l.shows.length (fun k => !rising 0 7 (l.shows.getD k [])) _ (fun k _ => rfl)]
      simp
    rw [hgs, ← hvl]
    refine containsFuncSS_any A c vs 43 #[] _ W (by omega) (hA.below hb) (enter_of Try.func43 (by kernel_rfl) rfl) (fun k u hk => ?_) (fun k u W' hk hb' => ?_)
    · obtain ⟨B, d, e, _⟩ := hvi k u _ hk (List.getElem?_eq_getElem (by have := (List.getElem?_eq_some_iff.1 hk).1; omega))
      exact ⟨B, _, d, e⟩
    · have hkl : k < l.shows.length := by have := (List.getElem?_eq_some_iff.1 hk).1; omega
      obtain ⟨B, d, rfl, _, hB⟩ := hvi k u _ hk (List.getElem?_eq_getElem hkl)
      have hg : l.shows.getD k [] = l.shows[k] := by simp [List.getD, hkl]
      rw [hg]
      exact isLabelled1_any B d _ W' (hs.2.2 _ (List.getElem_mem hkl)) ((hB.below hb).below (hb'.mono (Nat.le_refl _)))
  have H3 := Lib.hid hany
  have HB1 := Lib.hid hb1
  clear hany hb1 hvi hA hvl hsv' htv hs
  cases h1 : inB l.shows.length 1 40
  · go_enter Try.func16, Try.ntmps16
    go_wp2_with ((with_reducible refine (H1.out _ _ _ _).mono ?_); rintro e w' ⟨rfl, rfl⟩)
    go_ret
    exact ⟨by simp [goodLab, h1], HB1.out _⟩
  · go_enter Try.func16, Try.ntmps16
    go_wp2_with ((with_reducible refine (H1.out _ _ _ _).mono ?_); rintro e w' ⟨rfl, rfl⟩)
    refine (H2.out _).mono ?_
    rintro e w1 ⟨rfl, hw⟩
    obtain ⟨bx, _⟩ := one_box hw
    have x0 : w1.cell? ⟨w.heap.size, 0, none⟩ = some (.slice A l.shows.length c) := cell_of_row _ _ _ _ _ _ bx
    have hz := (HB1.out _).trans (hw.mono (HB1.out _).size)
    have H4 := Lib.hid (H3.out w1 hz)
    have HZ := Lib.hid hz
    clear bx hw hz
    cases h2 : goodSteps l.shows.length 8 l.steps
    · go_wp2_with fail
      go_ret
      exact ⟨by simp [goodLab, h2], HZ.out⟩
    · go_wp2_with ((with_reducible refine H4.out.mono ?_); rintro e w2 ⟨rfl, hw2⟩)
      go_ret
      exact ⟨by simp [goodLab, h1, h2], HZ.out.trans (hw2.mono HZ.out.size)⟩

set_option maxHeartbeats 400000 in
theorem specIsLabelled_any (v : Value) (l : Lab) (w : World) (hs : SmallLab l) (hv : RLab w v l) :
    Calls Try.prog 14 #[v] w fun e w' => e = .returned (.bool (goodLab l)) ∧ Below w.heap.size w w' := by
  have hb1 : ∀ o, Below w.heap.size w (w.alloc o) := fun o => (Below.refl _ _).alloc (Nat.le_refl _) o
  have H := Lib.hid (fun o => l11Good_any v l (w.alloc o) hs (hv.below (hb1 o)))
  obtain ⟨sv, tv, rfl, hsv, htv⟩ := hv
  have HB1 := Lib.hid hb1
  clear hb1 hsv htv
  go_enter Try.func14, Try.ntmps14
  go_wp2_with ((with_reducible refine (H.out _).mono ?_); rintro e w1 ⟨rfl, hw⟩)
  go_ret
  exact ⟨rfl, (HB1.out _).trans (hw.mono (HB1.out _).size)⟩

theorem le_sum {n : Nat} : ∀ {ns : List Nat}, n ∈ ns → n ≤ ns.sum := by
  intro ns
  induction ns with
  | nil => intro h; cases h
  | cons a r ih =>
    intro h
    simp only [List.sum_cons]
    rcases List.mem_cons.1 h with h | h
    · omega
    · have := ih h; omega

theorem szSS_small {xss : List (List Int)} {left : Int} (h0 : 0 ≤ left) (h1 : left ≤ 1048576) (h : 0 ≤ szSS xss left) : xss.length ≤ 1048576 ∧ (∀ xs ∈ xss, xs.length ≤ 1048576) ∧ szSS xss left ≤ 1048576 := by
  unfold szSS at h ⊢
  split at h
  · omega
  · rename_i hl
    have hs := szRows_sum (xss.map List.length) (left - xss.length) (by omega) h
    rw [if_neg hl]
    refine ⟨by omega, fun xs hx => ?_, by omega⟩
    have := le_sum (List.mem_map_of_mem (f := List.length) hx)
    omega

theorem szLab_small {l : Lab} {left : Int} (h0 : 0 ≤ left) (h1 : left ≤ 1048576) (h : ¬ szLab l left < 0) : SmallLab l ∧ 0 ≤ szLab l left ∧ szLab l left ≤ 1048576 := by
  unfold szLab at h ⊢
  split at h
  · omega
  · rename_i hl
    obtain ⟨a, b, c⟩ := szSS_small h0 h1 (show 0 ≤ szSS l.shows left by omega)
    unfold szRow at h ⊢
    rw [if_neg hl]
    split at h
    · omega
    · rename_i hr
      rw [if_neg hr]
      refine ⟨⟨by omega, by omega, fun xs hx => by have := b xs hx; omega⟩, by omega, by omega⟩

theorem RLab.drew {w : World} {v : Value} {l : Lab} (h : RLab w v l) : RLab w.drew v l := h

theorem sameLab_refl (l : Lab) : sameLab l l = true := by simp [sameLab, sameSS, sameA3]

theorem OwnLab.form {w : World} {S : Nat → Prop} {v : Value} {l : Lab} (h : OwnLab w S v l) : ∃ A c B d, v = .agg #[.slice A l.shows.length c, .slice B l.steps.length d] := by
  obtain ⟨sv, tv, S1, S2, e, h1, ⟨B, d, e2, _⟩, _⟩ := h
  obtain ⟨A, c, e1⟩ := h1.form
  exact ⟨A, c, B, d, by rw [e, e1, e2]⟩

set_option maxRecDepth 100000 in
set_option maxHeartbeats 2000000 in
theorem lawIsLabelled (v : Value) (l : Lab) (w : World) (hv : RLab w v l) :
    Calls Try.prog 4 #[v] w fun e w' => e = .returned (.bool true) ∧ Below w.heap.size w w' := by
  have hb1 : ∀ o, Below w.heap.size w (w.alloc o) := fun o => (Below.refl _ _).alloc (Nat.le_refl _) o
  have HSZ := Lib.hid (fun o => szLabelled_any v l 1048576 (w.alloc o) (by omega) (by omega) (hv.below (hb1 o)))
  have HV := Lib.hid (show ∀ W, Below w.heap.size w W → RLab W v l from fun W hb => hv.below hb)
  obtain ⟨sv, tv, rfl, _, _⟩ := hv
  have HB1 := Lib.hid hb1
  clear hb1
  go_enter Try.func4, Try.ntmps4
  go_wp2_with fail
  refine (HSZ.out _).mono ?_
  rintro e w1 ⟨rfl, hw1⟩
  obtain ⟨bx, hlt1⟩ := one_box hw1
  have x0 : w1.cell? ⟨w.heap.size, 0, none⟩ = some sv := cell_of_row _ _ _ _ _ _ bx
  have x1 : w1.cell? ⟨w.heap.size, 1, none⟩ = some tv := cell_of_row _ _ _ _ _ _ bx
  have hz1 := (HB1.out _).trans (hw1.mono (HB1.out _).size)
  have HZ1 := Lib.hid hz1
  clear bx hw1 hz1
  by_cases hneg : szLab l 1048576 < 0
  · go_wp2_with fail
    go_ret
    exact ⟨rfl, HZ1.out⟩
  · obtain ⟨hs, _, _⟩ := szLab_small (by omega) (by omega) hneg
    have HS := Lib.hid hs
    clear hs
    go_wp2_with fail
    refine (toLabelled_any _ l w1 (HV.out w1 HZ1.out) HS.out).mono ?_
    rintro e w2 ⟨u2, rfl, hu2, hw2⟩
    go_wp2_with fail
    refine (specIsLabelled_any u2 l w2 HS.out (hu2.rlab HS.out)).mono ?_
    rintro e w3 ⟨rfl, hw3⟩
    have h13 := hw2.trans (hw3.mono hw2.size)
    have y0 := cell_below h13 x0 (lt_of_cell x0)
    have y1 := cell_below h13 x1 (lt_of_cell x1)
    have HZ3 := Lib.hid (HZ1.out.trans (h13.mono HZ1.out.size))
    clear x0 x1 hw2 hw3 h13 hu2
    go_wp2_with fail
    refine (toLabelled_any _ l w3 (HV.out w3 HZ3.out) HS.out).mono ?_
    rintro e w4 ⟨u4, rfl, hu4, hw4⟩
    obtain ⟨A4, c4, B4, d4, rfl⟩ := hu4.form
    have z0 := cell_below hw4 y0 (lt_of_cell y0)
    have z1 := cell_below hw4 y1 (lt_of_cell y1)
    have HU4 := Lib.hid hu4
    have HW4 := Lib.hid hw4
    have HZ4 := Lib.hid (HZ3.out.trans (hw4.mono HZ3.out.size))
    clear y0 y1 hu4 hw4
    go_wp2_with fail
    have hba : Below w4.heap.size w4 (w4.alloc (.cells #[.slice A4 l.shows.length c4, .slice B4 l.steps.length d4] 32)) := (Below.refl _ _).alloc (Nat.le_refl _) _
    have H5 := Lib.hid (implIsLabelled_any _ l _ HS.out ((HU4.out.rlab HS.out).below hba))
    have HBA := Lib.hid hba
    clear hba
    refine H5.out.mono ?_
    rintro e w5 ⟨rfl, hw5⟩
    obtain ⟨bx, _⟩ := one_box hw5
    have q0 : w5.cell? ⟨w4.heap.size, 0, none⟩ = some (.slice A4 l.shows.length c4) := cell_of_row _ _ _ _ _ _ bx
    have q1 : w5.cell? ⟨w4.heap.size, 1, none⟩ = some (.slice B4 l.steps.length d4) := cell_of_row _ _ _ _ _ _ bx
    have h45 := HBA.out.trans (hw5.mono HBA.out.size)
    have p0 := cell_below h45 z0 (lt_of_cell z0)
    have p1 := cell_below h45 z1 (lt_of_cell z1)
    have HZ5 := Lib.hid (HZ4.out.trans (h45.mono HZ4.out.size))
    have HR4 := Lib.hid ((HU4.out.rlab HS.out).below h45)
    have hne : (goodLab l != goodLab l) = false := by rw [bne_self_eq_false]
    clear bx hw5 h45 z0 z1
    go_wp2_with fail
    go_region_held3 (fun w' => w'.cell? ⟨w4.heap.size, 0, none⟩ = some (.slice A4 l.shows.length c4) ∧ w'.cell? ⟨w4.heap.size, 1, none⟩ = some (.slice B4 l.steps.length d4) ∧ w'.cell? ⟨w.heap.size, 0, none⟩ = some sv ∧ w'.cell? ⟨w.heap.size, 1, none⟩ = some tv)
      (first | go_keep | (have hk := hw6.trans (hw7.mono hw6.size); exact ⟨cell_below hk q0 (lt_of_cell q0), cell_below hk q1 (lt_of_cell q1), cell_below hk p0 (lt_of_cell p0), cell_below hk p1 (lt_of_cell p1)⟩) | exact ⟨cell_below hw6 q0 (lt_of_cell q0), cell_below hw6 q1 (lt_of_cell q1), cell_below hw6 p0 (lt_of_cell p0), cell_below hw6 p1 (lt_of_cell p1)⟩)
      (first
        | (go_at_call 15; refine (toLabelled_any _ l _ (HV.out _ HZ5.out.drew) HS.out).mono ?_; rintro e w6 ⟨u6, rfl, hu6, hw6⟩)
        | (go_at_call 17; refine (eqLabelled_any _ _ l l _ (HR4.out.drew.below hw6) (hu6.rlab HS.out) HS.out HS.out).mono ?_; rintro e w7 ⟨rfl, hw7⟩))
    have hsl := sameLab_refl l
    have HF := Lib.hid ((HZ5.out.drew.trans (hw6.mono HZ5.out.drew.size)).trans (hw7.mono (Nat.le_trans HZ5.out.drew.size hw6.size)))
    clear hw6 hw7
    simp only [hsl, Bool.not_true]
    go_wp2_with fail
    go_ret
    exact ⟨rfl, HF.out⟩

end Go.Proofs.Ytfbcepdcdoiieaa
