/- IsLabelled of the program and of the reference, and the walk of the law that they agree. -/
import Derived.Test.YtdgnhfhaaghoaaaGreatDoorProg
import Derived.Test.YtdgnhfhaaghoaaaGreatDoorJ8
import Derived.Test.YtdgnhfhaaghoaaaGreatDoorJ9
import Derived.Test.YtdgnhfhaaghoaaaGreatDoorJ10
import Derived.Deep.RegionHeld3
set_option linter.unusedVariables false
namespace Go.Proofs.YtdgnhfhaaghoaaaGreatDoor
open Go.RowKit

theorem any_not (n : Nat) (p q : Nat → Bool) (h : ∀ k, k < n → p k = !q k) : (!anyR n p) = allR n q := by
  unfold anyR allR
  rw [Bool.eq_iff_iff]
  simp only [Bool.not_eq_true', List.any_eq_false, List.all_eq_true, List.mem_range]
  constructor
  · intro a k hk
    have := a k hk
    rw [h k hk] at this
    simpa using this
  · intro a k hk
    rw [h k hk, a k hk]
    simp

set_option maxHeartbeats 400000 in
theorem isLabelled1_any (A : Option Addr) (c : Nat) (l : List Int) (w : World) (hn : l.length ≤ 16777216) (hA : Cells w A (ints l)) :
    Calls Tryz.prog 121 #[.slice A l.length c] w fun e w' => e = .returned (.bool (!rising 0 7 l)) ∧ Below w.heap.size w w' := by
  have H := Lib.hid (isRising_any A c l 8 w hn (by omega) (by omega) hA)
  go_enter Tryz.func121, Tryz.ntmps121
  go_wp2_with ((with_reducible refine H.out.mono ?_); rintro e w' ⟨rfl, rfl⟩)
  go_ret
  exact ⟨rfl, Below.refl _ _⟩

set_option maxHeartbeats 1000000 in
theorem implIsLabelled_any (v : Value) (l : Lab) (w : World) (hs : SmallLab l) (hv : RLab w v l) :
    Calls Tryz.prog 53 #[v] w fun e w' => e = .returned (.bool (goodLab l)) ∧ Below w.heap.size w w' := by
  obtain ⟨sv, tv, rfl, hsv, htv⟩ := hv
  have hb1 : ∀ o, Below w.heap.size w (w.alloc o) := fun o => (Below.refl _ _).alloc (Nat.le_refl _) o
  have H1 := Lib.hid (fun n lo hi W => within_any n lo hi W)
  have H2 := Lib.hid (fun o => areSteps_any tv l.steps l.shows.length 8 (w.alloc o) hs.2.1 (by omega) (by have := hs.1; omega) (by omega) (by omega) (htv.below (hb1 o)))
  have hw1 := hs.1
  have hsv' := hsv
  obtain ⟨A, c, vs, rfl, _, hvl, hA, hvi⟩ := hsv
  have hany : ∀ W, Below w.heap.size w W → Calls Tryz.prog 120 #[.slice A l.shows.length c, .func (.func 121) #[] #[]] W
      fun e w' => e = .returned (.bool (!goodShows l.shows)) ∧ Below W.heap.size W w' := by
    intro W hb
    have hgs : (!goodShows l.shows) = anyR vs.length (fun k => !rising 0 7 (l.shows.getD k [])) := by
      rw [hvl]
      unfold goodShows
      rw [← any_not l.shows.length (fun k => !rising 0 7 (l.shows.getD k [])) _ (fun k _ => rfl)]
      simp
    rw [hgs, ← hvl]
    refine containsFuncSS_any A c vs 121 #[] _ W (by omega) (hA.below hb) (enter_of Tryz.func121 (by kernel_rfl) rfl) (fun k u hk => ?_) (fun k u W' hk hb' => ?_)
    · obtain ⟨B, d, e, _⟩ := hvi k u _ hk (List.getElem?_eq_getElem (by have := (List.getElem?_eq_some_iff.1 hk).1; omega))
      exact ⟨B, _, d, e⟩
    · have hkl : k < l.shows.length := by have := (List.getElem?_eq_some_iff.1 hk).1; omega
      obtain ⟨B, d, rfl, _, hB⟩ := hvi k u _ hk (List.getElem?_eq_getElem hkl)
      have hg : l.shows.getD k [] = l.shows[k] := by simp [List.getD, hkl]
      rw [hg]
      exact isLabelled1_any B d _ W' (hs.2.2 _ (List.getElem_mem hkl)) ((hB.below hb).below (hb'.mono (Nat.le_refl _)))
  have H3 := Lib.hid hany
  have HB1 := Lib.hid hb1
  clear hany hb1 hvi hA hvl hsv' htv hs
  cases h1 : inB l.shows.length 1 40
  · go_enter Tryz.func53, Tryz.ntmps53
    go_wp2_with ((with_reducible refine (H1.out _ _ _ _).mono ?_); rintro e w' ⟨rfl, rfl⟩)
    go_ret
    exact ⟨by simp [goodLab, h1], HB1.out _⟩
  · go_enter Tryz.func53, Tryz.ntmps53
    go_wp2_with ((with_reducible refine (H1.out _ _ _ _).mono ?_); rintro e w' ⟨rfl, rfl⟩)
    refine (H2.out _).mono ?_
    rintro e w1 ⟨rfl, hw⟩
    obtain ⟨bx, _⟩ := one_box hw
    have x0 : w1.cell? ⟨w.heap.size, 0, none⟩ = some (.slice A l.shows.length c) := cell_of_row _ _ _ _ _ _ bx
    have hz := (HB1.out _).trans (hw.mono (HB1.out _).size)
    have H4 := Lib.hid (H3.out w1 hz)
    have HZ := Lib.hid hz
    clear bx hw hz
    cases h2 : goodSteps l.shows.length 8 l.steps
    · go_wp2_with fail
      go_ret
      exact ⟨by simp [goodLab, h2], HZ.out⟩
    · go_wp2_with ((with_reducible refine H4.out.mono ?_); rintro e w2 ⟨rfl, hw2⟩)
      go_ret
      exact ⟨by simp [goodLab, h1, h2], HZ.out.trans (hw2.mono HZ.out.size)⟩

theorem le_sum {n : Nat} : ∀ {ns : List Nat}, n ∈ ns → n ≤ ns.sum := by
  intro ns
  induction ns with
  | nil => intro h; cases h
  | cons a r ih =>
    intro h
    simp only [List.sum_cons]
    rcases List.mem_cons.1 h with h | h
    · omega
    · have := ih h; omega

theorem szSS_small {xss : List (List Int)} {left : Int} (h0 : 0 ≤ left) (h1 : left ≤ 1048576) (h : 0 ≤ szSS xss left) : xss.length ≤ 1048576 ∧ (∀ xs ∈ xss, xs.length ≤ 1048576) ∧ szSS xss left ≤ 1048576 := by
  unfold szSS at h ⊢
  split at h
  · omega
  · rename_i hl
    have hs := szRows_sum (xss.map List.length) (left - xss.length) (by omega) h
    rw [if_neg hl]
    refine ⟨by omega, fun xs hx => ?_, by omega⟩
    have := le_sum (List.mem_map_of_mem (f := List.length) hx)
    omega

theorem szLab_small {l : Lab} {left : Int} (h0 : 0 ≤ left) (h1 : left ≤ 1048576) (h : ¬ szLab l left < 0) : SmallLab l ∧ 0 ≤ szLab l left ∧ szLab l left ≤ 1048576 := by
  unfold szLab at h ⊢
  split at h
  · omega
  · rename_i hl
    obtain ⟨a, b, c⟩ := szSS_small h0 h1 (show 0 ≤ szSS l.shows left by omega)
    unfold szRow at h ⊢
    rw [if_neg hl]
    split at h
    · omega
    · rename_i hr
      rw [if_neg hr]
      refine ⟨⟨by omega, by omega, fun xs hx => by have := b xs hx; omega⟩, by omega, by omega⟩

theorem RLab.drew {w : World} {v : Value} {l : Lab} (h : RLab w v l) : RLab w.drew v l := h

theorem sameLab_refl (l : Lab) : sameLab l l = true := by simp [sameLab, sameSS, sameA3]

theorem OwnLab.form {w : World} {S : Nat → Prop} {v : Value} {l : Lab} (h : OwnLab w S v l) : ∃ A c B d, v = .agg #[.slice A l.shows.length c, .slice B l.steps.length d] := by
  obtain ⟨sv, tv, S1, S2, e, h1, ⟨B, d, e2, _⟩, _⟩ := h
  obtain ⟨A, c, e1⟩ := h1.form
  exact ⟨A, c, B, d, by rw [e, e1, e2]⟩

end Go.Proofs.YtdgnhfhaaghoaaaGreatDoor
