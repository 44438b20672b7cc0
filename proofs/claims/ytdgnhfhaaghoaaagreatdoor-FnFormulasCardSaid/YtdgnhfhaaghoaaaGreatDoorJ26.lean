/- IsLabelled of the program and of the reference, and the walk of the law that they agree. The last round, and BisimilarOf: program and reference walked. -/
import Derived.Test.YtdgnhfhaaghoaaaGreatDoorProg
import Derived.Test.YtdgnhfhaaghoaaaGreatDoorJ23
import Derived.Test.YtdgnhfhaaghoaaaGreatDoorJ12
import Derived.Test.YtdgnhfhaaghoaaaGreatDoorJ2
import Derived.Deep.RegionHeld3
import Derived.Test.YtdgnhfhaaghoaaaGreatDoorJ25
set_option linter.unusedSimpArgs false
set_option linter.unusedVariables false
namespace Go.Proofs.YtdgnhfhaaghoaaaGreatDoor
open Go.RowKit

theorem any_not (n : Nat) (p q : Nat → Bool) (h : ∀ k, k < n → p k = !q k) : (!anyR n p) = allR n q := by
  unfold anyR allR
  rw [Bool.eq_iff_iff]
  simp only [Bool.not_eq_true', List.any_eq_false, List.all_eq_true, List.mem_range]
  constructor
  · intro a k hk
    have := a k hk
    rw [h k hk] at this
    simpa using this
  · intro a k hk
    rw [h k hk, a k hk]
    simp

set_option maxHeartbeats 400000 in
theorem isLabelled1_any (A : Option Addr) (c : Nat) (l : List Int) (w : World) (hn : l.length ≤ 16777216) (hA : Cells w A (ints l)) :
    Calls Tryz.prog 121 #[.slice A l.length c] w fun e w' => e = .returned (.bool (!rising 0 7 l)) ∧ Below w.heap.size w w' := by
  have H := Lib.hid (isRising_any A c l 8 w hn (by omega) (by omega) hA)
  go_enter Tryz.func121, Tryz.ntmps121
  go_wp2_with ((with_reducible refine H.out.mono ?_); rintro e w' ⟨rfl, rfl⟩)
  go_ret
  exact ⟨rfl, Below.refl _ _⟩

set_option maxHeartbeats 1000000 in
theorem implIsLabelled_any (v : Value) (l : Lab) (w : World) (hs : SmallLab l) (hv : RLab w v l) :
    Calls Tryz.prog 53 #[v] w fun e w' => e = .returned (.bool (goodLab l)) ∧ Below w.heap.size w w' := by
  obtain ⟨sv, tv, rfl, hsv, htv⟩ := hv
  have hb1 : ∀ o, Below w.heap.size w (w.alloc o) := fun o => (Below.refl _ _).alloc (Nat.le_refl _) o
  have H1 := Lib.hid (fun n lo hi W => within_any n lo hi W)
  have H2 := Lib.hid (fun o => areSteps_any tv l.steps l.shows.length 8 (w.alloc o) hs.2.1 (by omega) (by have := hs.1; omega) (by omega) (by omega) (htv.below (hb1 o)))
  have hw1 := hs.1
  have hsv' := hsv
  obtain ⟨A, c, vs, rfl, _, hvl, hA, hvi⟩ := hsv
  have hany : ∀ W, Below w.heap.size w W → Calls Tryz.prog 120 #[.slice A l.shows.length c, .func (.func 121) #[] #[]] W
      fun e w' => e = .returned (.bool (!goodShows l.shows)) ∧ Below W.heap.size W w' := by
    intro W hb
    have hgs : (!goodShows l.shows) = anyR vs.length (fun k => !rising 0 7 (l.shows.getD k [])) := by
      rw [hvl]
      unfold goodShows
      rw [← any_not l.shows.length (fun k => !rising 0 7 (l.shows.getD k [])) _ (fun k _ => rfl)]
      simp
    rw [hgs, ← hvl]
    refine containsFuncSS_any A c vs 121 #[] _ W (by omega) (hA.below hb) (enter_of Tryz.func121 (by kernel_rfl) rfl) (fun k u hk => ?_) (fun k u W' hk hb' => ?_)
    · obtain ⟨B, d, e, _⟩ := hvi k u _ hk (List.getElem?_eq_getElem (by have := (List.getElem?_eq_some_iff.1 hk).1; omega))
      exact ⟨B, _, d, e⟩
    · have hkl : k < l.shows.length := by have := (List.getElem?_eq_some_iff.1 hk).1; omega
      obtain ⟨B, d, rfl, _, hB⟩ := hvi k u _ hk (List.getElem?_eq_getElem hkl)
      have hg : l.shows.getD k [] = l.shows[k] := by simp [List.getD, hkl]
      rw [hg]
      exact isLabelled1_any B d _ W' (hs.2.2 _ (List.getElem_mem hkl)) ((hB.below hb).below (hb'.mono (Nat.le_refl _)))
  have H3 := Lib.hid hany
  have HB1 := Lib.hid hb1
  clear hany hb1 hvi hA hvl hsv' htv hs
  cases h1 : inB l.shows.length 1 40
  · go_enter Tryz.func53, Tryz.ntmps53
    go_wp2_with ((with_reducible refine (H1.out _ _ _ _).mono ?_); rintro e w' ⟨rfl, rfl⟩)
    go_ret
    exact ⟨by simp [goodLab, h1], HB1.out _⟩
  · go_enter Tryz.func53, Tryz.ntmps53
    go_wp2_with ((with_reducible refine (H1.out _ _ _ _).mono ?_); rintro e w' ⟨rfl, rfl⟩)
    refine (H2.out _).mono ?_
    rintro e w1 ⟨rfl, hw⟩
    obtain ⟨bx, _⟩ := one_box hw
    have x0 : w1.cell? ⟨w.heap.size, 0, none⟩ = some (.slice A l.shows.length c) := cell_of_row _ _ _ _ _ _ bx
    have hz := (HB1.out _).trans (hw.mono (HB1.out _).size)
    have H4 := Lib.hid (H3.out w1 hz)
    have HZ := Lib.hid hz
    clear bx hw hz
    cases h2 : goodSteps l.shows.length 8 l.steps
    · go_wp2_with fail
      go_ret
      exact ⟨by simp [goodLab, h2], HZ.out⟩
    · go_wp2_with ((with_reducible refine H4.out.mono ?_); rintro e w2 ⟨rfl, hw2⟩)
      go_ret
      exact ⟨by simp [goodLab, h1, h2], HZ.out.trans (hw2.mono HZ.out.size)⟩

theorem RLab.drew {w : World} {v : Value} {l : Lab} (h : RLab w v l) : RLab w.drew v l := h

theorem OwnLab.form {w : World} {S : Nat → Prop} {v : Value} {l : Lab} (h : OwnLab w S v l) : ∃ A c B d, v = .agg #[.slice A l.shows.length c, .slice B l.steps.length d] := by
  obtain ⟨sv, tv, S1, S2, e, h1, ⟨B, d, e2, _⟩, _⟩ := h
  obtain ⟨A, c, e1⟩ := h1.form
  exact ⟨A, c, B, d, by rw [e, e1, e2]⟩

end Go.Proofs.YtdgnhfhaaghoaaaGreatDoor

set_option linter.unusedVariables false
namespace Go.Proofs.YtdgnhfhaaghoaaaGreatDoor
open Go.RowKit

theorem TRN.rowAt {w : World} {B : Nat} {u : Value} {l : List (List Int)} {i : Nat} (h : TRN w B u l) (hi : i < l.length) : ∃ g c b d, u = .slice (some ⟨g, 0, none⟩) l.length c ∧ w.cell? ⟨g, i, none⟩ = some (.slice (some ⟨b, 0, none⟩) (l[i]).length d) ∧ w.ownsRow B 3 1 (.slice (some ⟨b, 0, none⟩) (l[i]).length d) (l[i]).length (ints l[i]) := by
  obtain ⟨vs, h1, h2, h3, h4⟩ := h
  have hvl : vs.length = l.length := by have := h1.1; omega
  have hv : vs[i]? = some (vs[i]'(by omega)) := List.getElem?_eq_getElem (by omega)
  have ho := h2 i _ _ hv (List.getElem?_eq_getElem hi)
  obtain ⟨b, hb⟩ := h4 i _ hv
  have h1' := h1
  rcases h1.2 with ⟨_, e⟩ | ⟨g, c, cur, rfl, hg0, hg1, _⟩
  · omega
  have hc := h1'.cellAt i (by omega)
  rw [hv] at hc
  rcases ho.2 with ⟨e, _⟩ | ⟨b', d, cur', e, hb0, _, hd, _⟩
  · rw [e] at hb
    simp [Value.ownBlock] at hb
  rw [e] at hb hc ho
  exact ⟨g, c, b', d, rfl, hc, ho⟩

def bisR (l : Lab) : List Int := if goodLab l then lastL l else []
theorem bisR_len (l : Lab) : (bisR l).length ≤ 40 := by
  unfold bisR
  split
  · rename_i h
    rw [show lastL l = partsL l l.shows.length from rfl, parts_len]
    exact (goodF_size h).2
  · simp
theorem goodF_rows {l : Lab} (h : goodLab l = true) : ∀ xs ∈ l.shows, (∀ x ∈ xs, 0 ≤ x ∧ x < 100) ∧ xs.length ≤ 1000 := fun xs hx => by
  obtain ⟨i, hi, rfl⟩ := List.getElem_of_mem hx
  obtain ⟨_, h1, h2⟩ := goodF_row h hi
  have e : l.shows.getD i [] = l.shows[i] := by simp [List.getD, hi]
  rw [e] at h1 h2
  exact ⟨fun x hx => by have := h1 x hx; omega, by omega⟩

set_option maxRecDepth 100000 in
set_option maxHeartbeats 4000000 in
theorem bisimilar_any (v : Value) (l : Lab) (w : World) (hv : RLab w v l)
    (HR : ∀ W, RLab W v l → Calls Tryz.prog 55 #[v] W fun e w' => ∃ u m, e = .returned u ∧ IsRounds l m ∧ TRN w' W.heap.size u (rowsTo (partsL l) (m + 1)) ∧ Below W.heap.size W w') :
    Calls Tryz.prog 61 #[v] w fun e w' => ∃ r, e = .returned r ∧ w'.ownsRow w.heap.size 3 1 r (lastL l).length (ints (lastL l)) ∧ Below w.heap.size w w' := by
  have HV := Lib.hid (show ∀ W, Below w.heap.size w W → RLab W v l from fun W hb => hv.below hb)
  obtain ⟨sv, tv, rfl, hsv, htv⟩ := hv
  obtain ⟨A1, c1', vs, rfl, hmx, _, _, _⟩ := hsv
  obtain ⟨D, d, rfl, _, _⟩ := htv
  obtain ⟨W0, hW0⟩ : ∃ W0, W0 = w.alloc (.cells #[.slice A1 l.shows.length c1', .slice D l.steps.length d] 27) := ⟨_, rfl⟩
  have hz0 : Below w.heap.size w W0 := by rw [hW0]; exact (Below.refl _ _).alloc (Nat.le_refl _) _
  have bx0 : W0.heap[w.heap.size]? = some (.cells #[.slice A1 l.shows.length c1', .slice D l.steps.length d] 27) := by rw [hW0]; exact heap_alloc_new _ _
  have x0 : W0.cell? ⟨w.heap.size, 0, none⟩ = some (.slice A1 l.shows.length c1') := cell_of_row _ _ _ _ _ _ bx0
  have x1 : W0.cell? ⟨w.heap.size, 1, none⟩ = some (.slice D l.steps.length d) := cell_of_row _ _ _ _ _ _ bx0
  have HC := Lib.hid (HR W0 (HV.out W0 hz0))
  have HW0 := Lib.hid hW0
  have HZ0 := Lib.hid hz0
  have hsz0 := hz0.size
  clear bx0 hW0 hz0 HR
  unfold maxLen at hmx
  rw [HW0.out] at x0 x1
  go_enter Tryz.func61, Tryz.ntmps61
  go_wp2_with fail
  rw [← HW0.out]
  (with_reducible refine HC.out.mono ?_)
  rintro e w1 ⟨u, m, rfl, hr, ht, hb1⟩
  obtain ⟨g, c, b, d', rfl, hc, ho⟩ := ht.rowAt (i := m) (by rw [rowsTo_len]; omega)
  rw [rowsTo_at, isRounds_last hr] at hc ho
  rw [rowsTo_len]
  have HO := Lib.hid (owns_mono ho hsz0)
  have HB := Lib.hid (HZ0.out.trans (hb1.mono hsz0))
  have e1 : (((m : Int) + 1) - 1) = (m : Int) := by omega
  have hm40 := hr.1
  have HS := Lib.hid hr
  clear ho hb1 hr ht x0 x1
  go_wp2_with fail
  go_ret
  exact ⟨_, rfl, HO.out, HB.out⟩

set_option maxRecDepth 100000 in
set_option maxHeartbeats 4000000 in
theorem implBisimilarOf_any (v : Value) (l : Lab) (w : World) (hs : SmallLab l) (hv : RLab w v l) :
    Calls Tryz.prog 14 #[v] w fun e w' => ∃ r, e = .returned (.tuple #[r, .bool (goodLab l)]) ∧ w'.ownsRow w.heap.size 3 1 r (bisR l).length (ints (bisR l)) ∧ Below w.heap.size w w' := by
  have HV := Lib.hid (show ∀ W, Below w.heap.size w W → RLab W v l from fun W hb => hv.below hb)
  have HG := Lib.hid (fun W (hb : Below w.heap.size w W) => implIsLabelled_any v l W hs (hv.below hb))
  have HI := Lib.hid (fun W (hg : goodLab l = true) (hb : Below w.heap.size w W) => bisimilar_any v l W (hv.below hb) (fun W hW => rounds_any v l W (goodF_size hg).1 (goodF_size hg).2 (by have := goodF_many hg; omega) (goodF_steps hg) (goodF_acts hg) (goodF_rows hg) hW))
  have HRG := Lib.hid (show goodLab l = true → bisR l = lastL l from fun hg => by unfold bisR; rw [hg]; rfl)
  have HRB := Lib.hid (show goodLab l = false → bisR l = [] from fun hg => by unfold bisR; rw [hg]; rfl)
  obtain ⟨sv, tv, rfl, hsv, htv⟩ := hv
  obtain ⟨A1, c1', vs, rfl, _, _, _, _⟩ := hsv
  obtain ⟨D, d, rfl, _, _⟩ := htv
  obtain ⟨W0, hW0⟩ : ∃ W0, W0 = w.alloc (.cells #[.slice A1 l.shows.length c1', .slice D l.steps.length d] 27) := ⟨_, rfl⟩
  have hz0 : Below w.heap.size w W0 := by rw [hW0]; exact (Below.refl _ _).alloc (Nat.le_refl _) _
  have hs0 : W0.heap.size = w.heap.size + 1 := by rw [hW0]; simp
  have bx0 : W0.heap[w.heap.size]? = some (.cells #[.slice A1 l.shows.length c1', .slice D l.steps.length d] 27) := by rw [hW0]; exact heap_alloc_new _ _
  have HX := Lib.hid (show ∀ W, Below W0.heap.size W0 W → W.cell? ⟨w.heap.size, 0, none⟩ = some (.slice A1 l.shows.length c1') ∧ W.cell? ⟨w.heap.size, 1, none⟩ = some (.slice D l.steps.length d) from fun W hW => by
    have := (hW.block _ (by omega)).trans bx0
    exact ⟨cell_of_row _ _ _ _ _ _ this, cell_of_row _ _ _ _ _ _ this⟩)
  obtain ⟨x0, x1⟩ := HX.out W0 (Below.refl _ _)
  have HW0 := Lib.hid hW0
  have HZ0 := Lib.hid hz0
  have hsz0 := hz0.size
  clear bx0 hW0 hz0 hs0
  rw [HW0.out] at x0 x1
  cases hg : goodLab l with
  | false =>
    have HRX := Lib.hid (HRB.out hg)
    rw [hg] at HG
    clear hg
    go_enter Tryz.func14, Tryz.ntmps14
    go_wp2_with fail
    rw [← HW0.out]
    (with_reducible refine (HG.out W0 HZ0.out).mono ?_)
    rintro e w1 ⟨rfl, hb1⟩
    have HB := Lib.hid (HZ0.out.trans (hb1.mono hsz0))
    clear hb1 x0 x1
    go_wp2_with fail
    go_ret2
    exact ⟨_, rfl, by rw [HRX.out]; exact World.ownsRow_nil _ _ _ _, HB.out⟩
  | true =>
    have HRX := Lib.hid (HRG.out hg)
    have HI2 := Lib.hid (fun W hb => HI.out W hg hb)
    rw [hg] at HG
    clear hg HI
    go_enter Tryz.func14, Tryz.ntmps14
    go_wp2_with fail
    rw [← HW0.out]
    (with_reducible refine (HG.out W0 HZ0.out).mono ?_)
    rintro e w1 ⟨rfl, hb1⟩
    have hb01 := HZ0.out.trans (hb1.mono hsz0)
    obtain ⟨x0, x1⟩ := HX.out w1 hb1
    have HC := Lib.hid (HI2.out w1 hb01)
    have HB := Lib.hid hb01
    have hs1 := hb01.size
    clear hb1 hb01
    go_wp2_with fail
    (with_reducible refine HC.out.mono ?_)
    rintro e w2 ⟨r, rfl, hr, hb2⟩
    obtain ⟨A2, c2, rfl, hr⟩ := owns_form hr
    have HO := Lib.hid (owns_mono hr hs1)
    have HB2 := Lib.hid (HB.out.trans (hb2.mono hs1))
    clear hr hb2 x0 x1
    go_wp2_with fail
    go_ret2
    exact ⟨_, rfl, by rw [HRX.out]; exact HO.out, HB2.out⟩

end Go.Proofs.YtdgnhfhaaghoaaaGreatDoor
