/- SaturateLabels: program and reference walked. The saturated system is small: plain. WeaklyBisimilarOf: program and reference walked. What the law of bisimilarity asks: a bisimulation relates bisimilar states alone, the bisimilar pairs are one, and bisimilar states simulate each other and are weakly bisimilar. Plain law. -/
import Derived.Test.YtdgnhfhaaghoaaaGreatDoorProg
import Derived.Test.YtdgnhfhaaghoaaaGreatDoorJ47
import Derived.Test.YtdgnhfhaaghoaaaGreatDoorJ23
import Derived.Test.YtdgnhfhaaghoaaaGreatDoorJ2
import Derived.Test.YtdgnhfhaaghoaaaGreatDoorJ41
import Derived.Test.YtdgnhfhaaghoaaaGreatDoorJ40
import Derived.Test.YtdgnhfhaaghoaaaGreatDoorJ33
set_option linter.unusedSimpArgs false
set_option linter.unusedVariables false
namespace Go.Proofs.YtdgnhfhaaghoaaaGreatDoor
open Go.RowKit

def satR (l : Lab) : Lab := if goodLab l then satL l else ⟨[], []⟩
theorem good_lab_rows {l : Lab} (h : goodLab l = true) : ∀ xs ∈ l.shows, xs.length ≤ 8 := by
  intro xs hx
  obtain ⟨i, hi, rfl⟩ := List.getElem_of_mem hx
  unfold goodLab goodShows at h
  simp only [Bool.and_eq_true] at h
  have h1 := allR_in h.2.2 hi
  have e : l.shows.getD i [] = l.shows[i] := by simp [List.getD, hi]
  rw [e] at h1
  generalize l.shows[i] = xs at *
  have hk : ∀ k, k < xs.length → (k : Int) ≤ xs.getD k 0 ∧ xs.getD k 0 ≤ 7 := by
    intro k
    induction k with
    | zero =>
      intro hk
      have := allR_in h1 hk
      unfold riseAt at this
      rw [Bool.and_eq_true] at this
      have := inB_true this.1
      omega
    | succ k ih =>
      intro hk
      have h2 := ih (by omega)
      have := allR_in h1 hk
      unfold riseAt at this
      simp only [Bool.and_eq_true, Bool.or_eq_true, beq_iff_eq, decide_eq_true_eq, Nat.add_sub_cancel] at this
      have h3 := inB_true this.1
      have h4 := this.2
      omega
  by_cases hl : xs.length ≤ 8
  · exact hl
  · have := hk 8 (by omega)
    omega
theorem good_lab_steps {l : Lab} (h : goodLab l = true) : StepsN l.shows.length l.steps := fun s hs => ((lab_in h).step s hs).1
theorem good_lab_acts {l : Lab} (h : goodLab l = true) : ∀ s ∈ l.steps, 0 ≤ s.2.1 ∧ s.2.1 < 8 := fun s hs => ((lab_in h).step s hs).2
theorem satL_spec {l : Lab} (h : goodLab l = true) : (⟨(List.range l.shows.length).map (specShow l.shows.length l.shows l.steps), specSat l.shows.length l.steps⟩ : Lab) = satL l := by
  unfold satL
  rw [spec_prog (good_lab_steps h) (good_lab_acts h)]
  congr 1
  exact List.map_congr_left fun i hi => show_same (good_lab_steps h) (List.mem_range.1 hi)

end Go.Proofs.YtdgnhfhaaghoaaaGreatDoor

set_option linter.unusedVariables false
namespace Go.Proofs.YtdgnhfhaaghoaaaGreatDoor
open Go.RowKit

theorem flat_len_le {α β : Type} {f : α → List β} {M : Nat} : ∀ {l : List α}, (∀ x ∈ l, (f x).length ≤ M) → (l.flatMap f).length ≤ l.length * M
  | [], _ => by simp
  | x :: l, h => by
    have h1 := h x (List.mem_cons_self)
    have ih := flat_len_le (l := l) fun y hy => h y (List.mem_cons_of_mem _ hy)
    rw [List.flatMap_cons, List.length_append, List.length_cons, Nat.succ_mul]
    omega
theorem satR_lens (l : Lab) : (satR l).shows.length ≤ 40 ∧ (satR l).steps.length ≤ 12800 ∧ ∀ xs ∈ (satR l).shows, xs.length ≤ 320 := by
  unfold satR
  split
  · rename_i hg
    have hl := lab_in hg
    have hm := hl.most
    rw [← satL_spec hg]
    refine ⟨by simpa using hm, ?_, ?_⟩
    · show (specSat l.shows.length l.steps).length ≤ 12800
      have h1 : ∀ i ∈ List.range l.shows.length, ((List.range 8).flatMap fun a => ((List.range l.shows.length).filter fun j => tabF l.shows.length l.steps a i j).map fun (j : Nat) => ((i : Int), (a : Int), (j : Int))).length ≤ 8 * 40 := fun i _ => by
        have h2 := flat_len_le (l := List.range 8) (M := 40) (f := fun (a : Nat) => ((List.range l.shows.length).filter fun j => tabF l.shows.length l.steps a i j).map fun (j : Nat) => ((i : Int), (a : Int), (j : Int))) (fun a _ => by
          rw [List.length_map]
          exact Nat.le_trans (List.length_filter_le _ _) (by simpa using hm))
        rwa [List.length_range] at h2
      have h3 := flat_len_le h1
      rw [List.length_range] at h3
      have h4 : l.shows.length * (8 * 40) ≤ 40 * (8 * 40) := Nat.mul_le_mul_right _ hm
      unfold specSat
      omega
    · intro xs hx
      rw [List.mem_map] at hx
      obtain ⟨i, hi, rfl⟩ := hx
      have hsl : (silL l.shows.length l.steps i).length ≤ l.shows.length := by
        unfold silL
        rw [List.length_map]
        exact Nat.le_trans (List.length_filter_le _ _) (by simp)
      have := unionsI_len (good_lab_rows hg) (silL l.shows.length l.steps i) []
      unfold specShow
      have h2 : (silL l.shows.length l.steps i).length * 8 ≤ 40 * 8 := Nat.mul_le_mul_right _ (by omega)
      rw [List.length_nil, Nat.zero_add] at this
      omega
  · exact ⟨by simp, by simp, fun xs hx => by simp at hx⟩
theorem small_satR (l : Lab) : SmallLab (satR l) := by
  obtain ⟨h1, h2, h3⟩ := satR_lens l
  exact ⟨by omega, by omega, fun xs hx => by have := h3 xs hx; omega⟩
end Go.Proofs.YtdgnhfhaaghoaaaGreatDoor

set_option linter.unusedVariables false
namespace Go.Proofs.YtdgnhfhaaghoaaaGreatDoor
open Go.RowKit

def weakR (l : Lab) : List Int := if goodLab l then lastL (satL l) else []
theorem weakR_len (l : Lab) : (weakR l).length ≤ 40 := by
  unfold weakR
  split
  · rename_i h
    rw [show lastL (satL l) = partsL (satL l) (satL l).shows.length from rfl, parts_len, satL_len]
    exact (goodF_size h).2
  · simp
theorem satG_steps {l : Lab} (h : goodLab l = true) : (satL l).steps.length ≤ 12800 ∧ ∀ xs ∈ (satL l).shows, xs.length ≤ 320 := by
  have := satR_lens l
  unfold satR at this
  rw [if_pos h] at this
  exact ⟨this.2.1, this.2.2⟩
theorem satG_size {l : Lab} (h : goodLab l = true) : 1 ≤ (satL l).shows.length ∧ (satL l).shows.length ≤ 40 := by rw [satL_len]; exact goodF_size h
theorem satG_in {l : Lab} (h : goodLab l = true) : StepsN (satL l).shows.length (satL l).steps ∧ ∀ s ∈ (satL l).steps, 0 ≤ s.2.1 ∧ s.2.1 < 8 := satL_steps (goodF_steps h) (goodF_acts h)
theorem satG_marks {l : Lab} (h : goodLab l = true) : ∀ xs ∈ (satL l).shows, (∀ x ∈ xs, 0 ≤ x ∧ x < 100) ∧ xs.length ≤ 1000 := by
  intro xs hx
  refine ⟨fun x hm => ?_, by have := (satG_steps h).2 xs hx; omega⟩
  unfold satL at hx
  rw [List.mem_map] at hx
  obtain ⟨i, _, rfl⟩ := hx
  unfold progShow at hm
  rw [(unions_fold l.shows _ [] List.Pairwise.nil).2 x] at hm
  rcases hm with hm | ⟨t, _, hm⟩
  · cases hm
  · by_cases ht : t.toNat < l.shows.length
    · have := (goodF_row h ht).2.1 x hm
      omega
    · have e : l.shows.getD t.toNat [] = [] := by simp [List.getD, show l.shows.length ≤ t.toNat by omega]
      rw [e] at hm
      cases hm

set_option maxRecDepth 100000 in
set_option maxHeartbeats 4000000 in
theorem implWeaklyBisimilarOf_any (v : Value) (l : Lab) (w : World) (hs : SmallLab l) (hv : RLab w v l) :
    Calls Tryz.prog 45 #[v] w fun e w' => ∃ r, e = .returned (.tuple #[r, .bool (goodLab l)]) ∧ w'.ownsRow w.heap.size 3 1 r (weakR l).length (ints (weakR l)) ∧ Below w.heap.size w w' := by
  have HV := Lib.hid (show ∀ W, Below w.heap.size w W → RLab W v l from fun W hb => hv.below hb)
  have HG := Lib.hid (fun W (hb : Below w.heap.size w W) => implIsLabelled_any v l W hs (hv.below hb))
  have HS := Lib.hid (fun W (hg : goodLab l = true) (hb : Below w.heap.size w W) => saturated_any v l 8 W hs (by omega) (good_lab_rows hg) (goodF_size hg).1 (goodF_size hg).2 (goodF_steps hg) (hv.below hb))
  have HL := Lib.hid (fun r W (hg : goodLab l = true) (hr : RLab W r (satL l)) => bisimilar_any r (satL l) W hr (fun W hW => rounds_any r (satL l) W (satG_size hg).1 (satG_size hg).2 (by have := (satG_steps hg).1; omega) (satG_in hg).1 (satG_in hg).2 (satG_marks hg) hW))
  have HSM := Lib.hid (show goodLab l = true → SmallLab (satL l) from fun hg => by have := small_satR l; unfold satR at this; rwa [if_pos hg] at this)
  have HRG := Lib.hid (show goodLab l = true → weakR l = lastL (satL l) from fun hg => by unfold weakR; rw [hg]; rfl)
  have HRB := Lib.hid (show goodLab l = false → weakR l = [] from fun hg => by unfold weakR; rw [hg]; rfl)
  obtain ⟨sv, tv, rfl, hsv, htv⟩ := hv
  obtain ⟨A1, c1', vs, rfl, _, _, _, _⟩ := hsv
  obtain ⟨D, d, rfl, _, _⟩ := htv
  obtain ⟨W0, hW0⟩ : ∃ W0, W0 = w.alloc (.cells #[.slice A1 l.shows.length c1', .slice D l.steps.length d] 27) := ⟨_, rfl⟩
  have hz0 : Below w.heap.size w W0 := by rw [hW0]; exact (Below.refl _ _).alloc (Nat.le_refl _) _
  have hs0 : W0.heap.size = w.heap.size + 1 := by rw [hW0]; simp
  have bx0 : W0.heap[w.heap.size]? = some (.cells #[.slice A1 l.shows.length c1', .slice D l.steps.length d] 27) := by rw [hW0]; exact heap_alloc_new _ _
  have HX := Lib.hid (show ∀ W, Below W0.heap.size W0 W → W.cell? ⟨w.heap.size, 0, none⟩ = some (.slice A1 l.shows.length c1') ∧ W.cell? ⟨w.heap.size, 1, none⟩ = some (.slice D l.steps.length d) from fun W hW => by
    have := (hW.block _ (by omega)).trans bx0
    exact ⟨cell_of_row _ _ _ _ _ _ this, cell_of_row _ _ _ _ _ _ this⟩)
  obtain ⟨x0, x1⟩ := HX.out W0 (Below.refl _ _)
  have HW0 := Lib.hid hW0
  have HZ0 := Lib.hid hz0
  have hsz0 := hz0.size
  clear bx0 hW0 hz0 hs0
  rw [HW0.out] at x0 x1
  cases hg : goodLab l with
  | false =>
    have HRX := Lib.hid (HRB.out hg)
    rw [hg] at HG
    clear hg
    go_enter Tryz.func45, Tryz.ntmps45
    go_wp2_with fail
    rw [← HW0.out]
    (with_reducible refine (HG.out W0 HZ0.out).mono ?_)
    rintro e w1 ⟨rfl, hb1⟩
    have HB := Lib.hid (HZ0.out.trans (hb1.mono hsz0))
    clear hb1 x0 x1
    go_wp2_with fail
    go_ret2
    exact ⟨_, rfl, by rw [HRX.out]; exact World.ownsRow_nil _ _ _ _, HB.out⟩
  | true =>
    have HRX := Lib.hid (HRG.out hg)
    have HS2 := Lib.hid (fun W hb => HS.out W hg hb)
    have HL2 := Lib.hid (fun r W hr => HL.out r W hg hr)
    have HSM2 := Lib.hid (HSM.out hg)
    rw [hg] at HG
    clear hg HS HL HSM
    go_enter Tryz.func45, Tryz.ntmps45
    go_wp2_with fail
    rw [← HW0.out]
    (with_reducible refine (HG.out W0 HZ0.out).mono ?_)
    rintro e w1 ⟨rfl, hb1⟩
    have hb01 := HZ0.out.trans (hb1.mono hsz0)
    obtain ⟨x0, x1⟩ := HX.out w1 hb1
    have HC := Lib.hid (HS2.out w1 hb01)
    have HB := Lib.hid hb01
    have hs1 := hb01.size
    clear hb1 hb01
    go_wp2_with fail
    (with_reducible refine HC.out.mono ?_)
    rintro e w5 ⟨r5, rfl, hr5, hb5⟩
    have HC5 := Lib.hid (HL2.out r5 w5 (hr5.rlab HSM2.out))
    have HB := Lib.hid (HB.out.trans (hb5.mono hs1))
    have hs1 := HB.out.size
    clear hr5 hb5
    go_wp2_with fail
    (with_reducible refine HC5.out.mono ?_)
    rintro e w2 ⟨r, rfl, hr, hb2⟩
    obtain ⟨A2, c2, rfl, hr⟩ := owns_form hr
    have HO := Lib.hid (owns_mono hr hs1)
    have HB2 := Lib.hid (HB.out.trans (hb2.mono hs1))
    clear hr hb2 x0 x1
    go_wp2_with fail
    go_ret2
    exact ⟨_, rfl, by rw [HRX.out]; exact HO.out, HB2.out⟩

set_option maxRecDepth 100000 in
set_option maxHeartbeats 4000000 in
theorem specWeaklyBisimilarOf_any (v : Value) (l : Lab) (w : World) (hs : SmallLab l) (hv : RLab w v l) :
    Calls Tryz.prog 46 #[v] w fun e w' => ∃ r, e = .returned (.tuple #[r, .bool (goodLab l)]) ∧ w'.ownsRow w.heap.size 3 1 r (weakR l).length (ints (weakR l)) ∧ Below w.heap.size w w' := by
  have HV := Lib.hid (show ∀ W, Below w.heap.size w W → RLab W v l from fun W hb => hv.below hb)
  have HG := Lib.hid (fun W (hb : Below w.heap.size w W) => l11Good_any v l W hs (hv.below hb))
  have HS := Lib.hid (fun W (hg : goodLab l = true) (hb : Below w.heap.size w W) => show Calls Tryz.prog 101 #[v] W (fun e w' => ∃ r, e = .returned r ∧ OwnLab w' (fun b => W.heap.size ≤ b ∧ b < w'.heap.size) r (satL l) ∧ Below W.heap.size W w') from by rw [← satL_spec hg]; exact l11Saturate_any v l 8 W (by omega) (good_lab_rows hg) (goodF_size hg).1 (goodF_size hg).2 (goodF_steps hg) (hv.below hb))
  have HL := Lib.hid (fun r W (hg : goodLab l = true) (hr : RLab W r (satL l)) => l11Last_any r (satL l) W hr (fun W hW => l11Rounds_any r (satL l) W (by have := small_satR l; unfold satR at this; rwa [if_pos hg] at this) (by have := (satG_steps hg).1; omega) (satG_size hg).1 (satG_size hg).2 (satG_in hg).1 (satG_in hg).2 hW))
  have HSM := Lib.hid (show goodLab l = true → SmallLab (satL l) from fun hg => by have := small_satR l; unfold satR at this; rwa [if_pos hg] at this)
  have HRG := Lib.hid (show goodLab l = true → weakR l = lastL (satL l) from fun hg => by unfold weakR; rw [hg]; rfl)
  have HRB := Lib.hid (show goodLab l = false → weakR l = [] from fun hg => by unfold weakR; rw [hg]; rfl)
  obtain ⟨sv, tv, rfl, hsv, htv⟩ := hv
  obtain ⟨A1, c1', vs, rfl, _, _, _, _⟩ := hsv
  obtain ⟨D, d, rfl, _, _⟩ := htv
  obtain ⟨W0, hW0⟩ : ∃ W0, W0 = w.alloc (.cells #[.slice A1 l.shows.length c1', .slice D l.steps.length d] 27) := ⟨_, rfl⟩
  have hz0 : Below w.heap.size w W0 := by rw [hW0]; exact (Below.refl _ _).alloc (Nat.le_refl _) _
  have hs0 : W0.heap.size = w.heap.size + 1 := by rw [hW0]; simp
  have bx0 : W0.heap[w.heap.size]? = some (.cells #[.slice A1 l.shows.length c1', .slice D l.steps.length d] 27) := by rw [hW0]; exact heap_alloc_new _ _
  have HX := Lib.hid (show ∀ W, Below W0.heap.size W0 W → W.cell? ⟨w.heap.size, 0, none⟩ = some (.slice A1 l.shows.length c1') ∧ W.cell? ⟨w.heap.size, 1, none⟩ = some (.slice D l.steps.length d) from fun W hW => by
    have := (hW.block _ (by omega)).trans bx0
    exact ⟨cell_of_row _ _ _ _ _ _ this, cell_of_row _ _ _ _ _ _ this⟩)
  obtain ⟨x0, x1⟩ := HX.out W0 (Below.refl _ _)
  have HW0 := Lib.hid hW0
  have HZ0 := Lib.hid hz0
  have hsz0 := hz0.size
  clear bx0 hW0 hz0 hs0
  rw [HW0.out] at x0 x1
  cases hg : goodLab l with
  | false =>
    have HRX := Lib.hid (HRB.out hg)
    rw [hg] at HG
    clear hg
    go_enter Tryz.func46, Tryz.ntmps46
    go_wp2_with fail
    rw [← HW0.out]
    (with_reducible refine (HG.out W0 HZ0.out).mono ?_)
    rintro e w1 ⟨rfl, hb1⟩
    have HB := Lib.hid (HZ0.out.trans (hb1.mono hsz0))
    clear hb1 x0 x1
    go_wp2_with fail
    go_ret2
    exact ⟨_, rfl, by rw [HRX.out]; exact owns_mono (made_row _ _) HB.out.size, HB.out.alloc HB.out.size _⟩
  | true =>
    have HRX := Lib.hid (HRG.out hg)
    have HS2 := Lib.hid (fun W hb => HS.out W hg hb)
    have HL2 := Lib.hid (fun r W hr => HL.out r W hg hr)
    have HSM2 := Lib.hid (HSM.out hg)
    rw [hg] at HG
    clear hg HS HL HSM
    go_enter Tryz.func46, Tryz.ntmps46
    go_wp2_with fail
    rw [← HW0.out]
    (with_reducible refine (HG.out W0 HZ0.out).mono ?_)
    rintro e w1 ⟨rfl, hb1⟩
    have hb01 := HZ0.out.trans (hb1.mono hsz0)
    obtain ⟨x0, x1⟩ := HX.out w1 hb1
    have HC := Lib.hid (HS2.out w1 hb01)
    have HB := Lib.hid hb01
    have hs1 := hb01.size
    clear hb1 hb01
    go_wp2_with fail
    (with_reducible refine HC.out.mono ?_)
    rintro e w5 ⟨r5, rfl, hr5, hb5⟩
    have HC5 := Lib.hid (HL2.out r5 w5 (hr5.rlab HSM2.out))
    have HB := Lib.hid (HB.out.trans (hb5.mono hs1))
    have hs1 := HB.out.size
    clear hr5 hb5
    go_wp2_with fail
    (with_reducible refine HC5.out.mono ?_)
    rintro e w2 ⟨r, rfl, hr, hb2⟩
    obtain ⟨A2, c2, rfl, hr⟩ := owns_form hr
    have HO := Lib.hid (owns_mono hr hs1)
    have HB2 := Lib.hid (HB.out.trans (hb2.mono hs1))
    clear hr hb2 x0 x1
    go_wp2_with fail
    go_ret2
    exact ⟨_, rfl, by rw [HRX.out]; exact HO.out, HB2.out⟩

end Go.Proofs.YtdgnhfhaaghoaaaGreatDoor

set_option linter.unusedVariables false
namespace Go.Proofs.YtdgnhfhaaghoaaaGreatDoor
open Go.RowKit

theorem folB_iff {ss : List I3} {s t : Int} {rel : Int → Int → Bool} : folB ss s t rel = true ↔ ∀ a ∈ ss, a.1 = s → ∃ b ∈ ss, b.1 = t ∧ b.2.1 = a.2.1 ∧ rel a.2.2 b.2.2 = true := by
  unfold folB
  rw [List.all_eq_true]
  constructor
  · intro h a ha e
    have := h a ha
    rw [Bool.or_eq_true] at this
    rcases this with h1 | h1
    · simp [e] at h1
    · rw [List.any_eq_true] at h1
      obtain ⟨b, hb, h2⟩ := h1
      simp only [Bool.and_eq_true, beq_iff_eq] at h2
      exact ⟨b, hb, h2.1.1, h2.1.2, h2.2⟩
  · intro h a ha
    rw [Bool.or_eq_true]
    by_cases e : a.1 = s
    · right
      obtain ⟨b, hb, h1, h2, h3⟩ := h a ha e
      rw [List.any_eq_true]
      exact ⟨b, hb, by simp [h1, h2, h3]⟩
    · left
      simpa using e
theorem relP_iff {ps : List I2} {a b : Int} : relP ps a b = true ↔ (a, b) ∈ ps := by
  unfold relP
  rw [List.any_eq_true]
  constructor
  · rintro ⟨⟨x, y⟩, hp, h⟩
    simp only [Bool.and_eq_true, beq_iff_eq] at h
    obtain ⟨rfl, rfl⟩ := h
    exact hp
  · intro h
    exact ⟨(a, b), h, by simp⟩
theorem okB_iff {l : Lab} {ps : List I2} : okB l ps = true ↔ goodLab l = true ∧ ∀ x ∈ ps, ∃ i j : Nat, x = ((i : Int), (j : Int)) ∧ i < l.shows.length ∧ j < l.shows.length := by
  unfold okB
  rw [Bool.and_eq_true, List.all_eq_true]
  constructor
  · rintro ⟨hg, h⟩
    refine ⟨hg, fun x hx => ?_⟩
    have := h x hx
    unfold inP at this
    rw [Bool.and_eq_true] at this
    obtain ⟨i, h1, h2⟩ := stB_true this.1
    obtain ⟨j, h3, h4⟩ := stB_true this.2
    exact ⟨i, j, by rw [← h1, ← h3], h2, h4⟩
  · rintro ⟨hg, h⟩
    refine ⟨hg, fun x hx => ?_⟩
    obtain ⟨i, j, rfl, hi, hj⟩ := h x hx
    unfold inP stB
    rw [Bool.and_eq_true]
    exact ⟨inB_mk (by omega), inB_mk (by omega)⟩
/-- A bisimulation relates bisimilar states alone. -/
theorem bisim_within {l : Lab} {ps : List I2} (ho : okB l ps = true) (hb : bisB l ps = true) {x : I2} (hx : x ∈ ps) : ∃ i j : Nat, x = ((i : Int), (j : Int)) ∧ i < l.shows.length ∧ j < l.shows.length ∧ (lastL l).getD i 0 = (lastL l).getD j 0 := by
  obtain ⟨hg, hin⟩ := okB_iff.1 ho
  obtain ⟨i, j, rfl, hi, hj⟩ := hin x hx
  refine ⟨i, j, rfl, hi, hj, ?_⟩
  refine bis_great (goodL_of hg) (R := fun i j => ((i : Int), (j : Int)) ∈ ps) ?_ i j hx
  intro i j h
  unfold bisB at hb
  rw [List.all_eq_true] at hb
  have hp := hb _ h
  unfold bisP at hp
  simp only [Bool.and_eq_true] at hp
  obtain ⟨i', j', e, hi', hj'⟩ := hin _ h
  rw [Prod.mk.injEq] at e
  have e1 : i = i' := by omega
  have e2 : j = j' := by omega
  subst e1; subst e2
  refine ⟨hi', hj', ?_, fun s hs e => ?_, fun t ht e => ?_⟩
  · have := hp.1
    simpa [sameI] using this
  · obtain ⟨t, ht, t1, t2, t3⟩ := folB_iff.1 hp.2.1 s hs e
    refine ⟨t, ht, t1, t2, ?_⟩
    obtain ⟨p, q, hq⟩ := hin _ (relP_iff.1 t3)
    obtain ⟨h1, h2⟩ := Prod.mk.injEq _ _ _ _ ▸ hq.1
    have := relP_iff.1 t3
    rw [h1, h2] at this ⊢
    rw [Int.toNat_natCast, Int.toNat_natCast]; exact this
  · obtain ⟨s, hs, s1, s2, s3⟩ := folB_iff.1 hp.2.2 t ht e
    refine ⟨s, hs, s1, s2, ?_⟩
    obtain ⟨p, q, hq⟩ := hin _ (relP_iff.1 s3)
    obtain ⟨h1, h2⟩ := Prod.mk.injEq _ _ _ _ ▸ hq.1
    have := relP_iff.1 s3
    rw [h1, h2] at this ⊢
    rw [Int.toNat_natCast, Int.toNat_natCast]; exact this
/-- What the loops gather: bisimilar pairs alone, and all that lie before a place. -/
def AllP (l : Lab) (i k : Nat) (ps : List I2) : Prop :=
  (∀ x ∈ ps, ∃ a b : Nat, x = ((a : Int), (b : Int)) ∧ a < l.shows.length ∧ b < l.shows.length ∧ bis l a b) ∧ ∀ a b : Nat, b < l.shows.length → (a < i ∨ (a = i ∧ b < k)) → bis l a b → ((a : Int), (b : Int)) ∈ ps
theorem AllP.start (l : Lab) : AllP l 0 0 [] := ⟨(fun x hx => by cases hx), fun a b _ h => by omega⟩
theorem AllP.skip {l : Lab} {i k : Nat} {ps : List I2} (h : AllP l i k ps) (hn : ¬ bis l i k) : AllP l i (k + 1) ps :=
  ⟨h.1, fun a b hb hp hab => by
    by_cases e : a = i ∧ b = k
    · obtain ⟨rfl, rfl⟩ := e; exact absurd hab hn
    · exact h.2 a b hb (by omega) hab⟩
theorem AllP.put {l : Lab} {i k : Nat} {ps : List I2} (h : AllP l i k ps) (hi : i < l.shows.length) (hk : k < l.shows.length) (hik : bis l i k) : AllP l i (k + 1) (ps ++ [((i : Int), (k : Int))]) :=
  ⟨fun x hx => by
    rcases List.mem_append.1 hx with hx | hx
    · exact h.1 x hx
    · simp at hx; subst hx; exact ⟨i, k, rfl, hi, hk, hik⟩, fun a b hb hp hab => by
    rw [List.mem_append]
    by_cases e : a = i ∧ b = k
    · obtain ⟨rfl, rfl⟩ := e; right; simp
    · left; exact h.2 a b hb (by omega) hab⟩
theorem AllP.next {l : Lab} {i : Nat} {ps : List I2} (h : AllP l i l.shows.length ps) : AllP l (i + 1) 0 ps :=
  ⟨h.1, fun a b hb hp hab => h.2 a b hb (by omega) hab⟩
theorem AllP.whole {l : Lab} {ps : List I2} (hg : goodLab l = true) (h : AllP l l.shows.length 0 ps) : okB l ps = true ∧ bisB l ps = true := by
  have hl := goodL_of hg
  refine ⟨okB_iff.2 ⟨hg, fun x hx => ?_⟩, ?_⟩
  · obtain ⟨a, b, e, ha, hb, _⟩ := h.1 x hx
    exact ⟨a, b, e, ha, hb⟩
  · unfold bisB
    rw [List.all_eq_true]
    intro x hx
    obtain ⟨a, b, rfl, ha, hb, hab⟩ := h.1 x hx
    unfold bisP
    simp only [Bool.and_eq_true]
    have full : ∀ p q : Nat, p < l.shows.length → q < l.shows.length → bis l p q → relP ps p q = true := fun p q hp hq hpq => relP_iff.2 (h.2 p q hq (.inl hp) hpq)
    refine ⟨?_, folB_iff.2 fun s hs e => ?_, folB_iff.2 fun s hs e => ?_⟩
    · rw [Int.toNat_natCast, Int.toNat_natCast, bis_shows ha hb hab]; exact sameI_refl _
    · obtain ⟨t, ht, t1, t2, t3⟩ := bis_next hl ha hb hab hs e
      obtain ⟨_, p, _, hp, _, hpn⟩ := hl.steps s hs
      obtain ⟨_, q, _, hq, _, hqn⟩ := hl.steps t ht
      refine ⟨t, ht, t1, t2, ?_⟩
      rw [hp, hq] at t3 ⊢
      rw [Int.toNat_natCast, Int.toNat_natCast] at t3
      exact full p q hpn hqn (bis_symm t3)
    · obtain ⟨t, ht, t1, t2, t3⟩ := bis_next hl hb ha (bis_symm hab) hs e
      obtain ⟨_, p, _, hp, _, hpn⟩ := hl.steps s hs
      obtain ⟨_, q, _, hq, _, hqn⟩ := hl.steps t ht
      refine ⟨t, ht, t1, t2, ?_⟩
      rw [hp, hq] at t3 ⊢
      rw [Int.toNat_natCast, Int.toNat_natCast] at t3
      exact full q p hqn hpn t3
theorem partB_refl (xs : List Int) : partB xs xs = true := by
  unfold partB
  refine allR_true fun k hk => ?_
  unfold hasI
  rw [List.contains_iff_mem]
  have e : xs.getD k 0 = xs[k] := by simp [List.getD, hk]
  rw [e]
  exact List.getElem_mem hk
/-- Bisimilar states simulate each other. -/
theorem bisim_simulated {l : Lab} (hg : goodLab l = true) {i k : Nat} (hi : i < l.shows.length) (hk : k < l.shows.length) (h : bis l i k) {b : Bool} (hs : SimSaid l i k b) : b = true ∧ okST l i k = true := by
  have ho : okST l i k = true := by
    unfold okST stB
    rw [hg, inB_mk (by omega), inB_mk (by omega)]; rfl
  refine ⟨?_, ho⟩
  rcases hs with ⟨h1, _⟩ | ⟨_, r, r1, r2, rfl⟩
  · rw [ho] at h1; cases h1
  · refine bis_sim (goodL_of hg) r1 (fun a b ha hb e => ?_) hi hk h
    unfold initI
    rw [relF_at ha hb]
    unfold initP
    rw [e]
    exact partB_refl _
/-- Bisimilar states are weakly bisimilar. -/
theorem bisim_weak {l : Lab} (hg : goodLab l = true) {i k : Nat} (hi : i < l.shows.length) (hk : k < l.shows.length) (h : bis l i k) : (weakR l).getD i 0 = (weakR l).getD k 0 := by
  unfold weakR
  rw [if_pos hg]
  exact bis_weak (goodL_of hg) hi hk h
theorem weakR_at {l : Lab} (hg : goodLab l = true) : (weakR l).length = l.shows.length := by
  unfold weakR
  rw [if_pos hg, show (lastL (satL l)).length = _ from parts_len _ _, satL_len]

end Go.Proofs.YtdgnhfhaaghoaaaGreatDoor
