/- SaturateLabels: program and reference walked. The saturated system is small: plain. WeaklyBisimilarOf: program and reference walked. -/
import Derived.Test.YtojdobpmknadhaaGreatDoorProg
import Derived.Test.YtojdobpmknadhaaGreatDoorJ45
import Derived.Test.YtojdobpmknadhaaGreatDoorJ32
import Derived.Test.YtojdobpmknadhaaGreatDoorJ12
set_option linter.unusedVariables false
namespace Go.Proofs.YtojdobpmknadhaaGreatDoor
open Go.RowKit

def satR (l : Lab) : Lab := if goodLab l then satL l else ⟨[], []⟩
theorem good_lab_rows {l : Lab} (h : goodLab l = true) : ∀ xs ∈ l.shows, xs.length ≤ 8 := by
  intro xs hx
  obtain ⟨i, hi, rfl⟩ := List.getElem_of_mem hx
  unfold goodLab goodShows at h
  simp only [Bool.and_eq_true] at h
  have h1 := allR_in h.2.2 hi
  have e : l.shows.getD i [] = l.shows[i] := by simp [List.getD, hi]
  rw [e] at h1
  generalize l.shows[i] = xs at *
  have hk : ∀ k, k < xs.length → (k : Int) ≤ xs.getD k 0 ∧ xs.getD k 0 ≤ 7 := by
    intro k
    induction k with
    | zero =>
      intro hk
      have := allR_in h1 hk
      unfold riseAt at this
      rw [Bool.and_eq_true] at this
      have := inB_true this.1
      omega
    | succ k ih =>
      intro hk
      have h2 := ih (by omega)
      have := allR_in h1 hk
      unfold riseAt at this
      simp only [Bool.and_eq_true, Bool.or_eq_true, beq_iff_eq, decide_eq_true_eq, Nat.add_sub_cancel] at this
      have h3 := inB_true this.1
      have h4 := this.2
      omega
  by_cases hl : xs.length ≤ 8
  · exact hl
  · have := hk 8 (by omega)
    omega
theorem good_lab_steps {l : Lab} (h : goodLab l = true) : StepsN l.shows.length l.steps := fun s hs => ((lab_in h).step s hs).1
theorem good_lab_acts {l : Lab} (h : goodLab l = true) : ∀ s ∈ l.steps, 0 ≤ s.2.1 ∧ s.2.1 < 8 := fun s hs => ((lab_in h).step s hs).2
theorem satL_spec {l : Lab} (h : goodLab l = true) : (⟨(List.range l.shows.length).map (specShow l.shows.length l.shows l.steps), specSat l.shows.length l.steps⟩ : Lab) = satL l := by
  unfold satL
  rw [spec_prog (good_lab_steps h) (good_lab_acts h)]
  congr 1
  exact List.map_congr_left fun i hi => show_same (good_lab_steps h) (List.mem_range.1 hi)

end Go.Proofs.YtojdobpmknadhaaGreatDoor

set_option linter.unusedVariables false
namespace Go.Proofs.YtojdobpmknadhaaGreatDoor
open Go.RowKit

theorem flat_len_le {α β : Type} {f : α → List β} {M : Nat} : ∀ {l : List α}, (∀ x ∈ l, (f x).length ≤ M) → (l.flatMap f).length ≤ l.length * M
  | [], _ => by simp
  | x :: l, h => by
    have h1 := h x (List.mem_cons_self)
    have ih := flat_len_le (l := l) fun y hy => h y (List.mem_cons_of_mem _ hy)
    rw [List.flatMap_cons, List.length_append, List.length_cons, Nat.succ_mul]
    omega
theorem totalZ_le {M : Nat} : ∀ {xss : List (List Int)}, (∀ xs ∈ xss, xs.length ≤ M) → total xss ≤ xss.length * M
  | [], _ => by simp [total]
  | xs :: r, h => by
    have h1 := h xs (List.mem_cons_self)
    have ih := totalZ_le (xss := r) fun y hy => h y (List.mem_cons_of_mem _ hy)
    unfold total at ih ⊢
    rw [List.map_cons, List.sum_cons, List.length_cons, Nat.succ_mul]
    omega
theorem satR_lens (l : Lab) : (satR l).shows.length ≤ 40 ∧ (satR l).steps.length ≤ 12800 ∧ ∀ xs ∈ (satR l).shows, xs.length ≤ 320 := by
  unfold satR
  split
  · rename_i hg
    have hl := lab_in hg
    have hm := hl.most
    rw [← satL_spec hg]
    refine ⟨by simpa using hm, ?_, ?_⟩
    · show (specSat l.shows.length l.steps).length ≤ 12800
      have h1 : ∀ i ∈ List.range l.shows.length, ((List.range 8).flatMap fun a => ((List.range l.shows.length).filter fun j => tabF l.shows.length l.steps a i j).map fun (j : Nat) => ((i : Int), (a : Int), (j : Int))).length ≤ 8 * 40 := fun i _ => by
        have h2 := flat_len_le (l := List.range 8) (M := 40) (f := fun (a : Nat) => ((List.range l.shows.length).filter fun j => tabF l.shows.length l.steps a i j).map fun (j : Nat) => ((i : Int), (a : Int), (j : Int))) (fun a _ => by
          rw [List.length_map]
          exact Nat.le_trans (List.length_filter_le _ _) (by simpa using hm))
        rwa [List.length_range] at h2
      have h3 := flat_len_le h1
      rw [List.length_range] at h3
      have h4 : l.shows.length * (8 * 40) ≤ 40 * (8 * 40) := Nat.mul_le_mul_right _ hm
      unfold specSat
      omega
    · intro xs hx
      rw [List.mem_map] at hx
      obtain ⟨i, hi, rfl⟩ := hx
      have hsl : (silL l.shows.length l.steps i).length ≤ l.shows.length := by
        unfold silL
        rw [List.length_map]
        exact Nat.le_trans (List.length_filter_le _ _) (by simp)
      have := unionsI_len (good_lab_rows hg) (silL l.shows.length l.steps i) []
      unfold specShow
      have h2 : (silL l.shows.length l.steps i).length * 8 ≤ 40 * 8 := Nat.mul_le_mul_right _ (by omega)
      rw [List.length_nil, Nat.zero_add] at this
      omega
  · exact ⟨by simp, by simp, fun xs hx => by simp at hx⟩
theorem small_satR (l : Lab) : SmallLab (satR l) := by
  obtain ⟨h1, h2, h3⟩ := satR_lens l
  exact ⟨by omega, by omega, fun xs hx => by have := h3 xs hx; omega⟩
theorem size_satR (l : Lab) : sizeLab (satR l) ≤ 4194304 := by
  obtain ⟨h1, h2, h3⟩ := satR_lens l
  have h4 := totalZ_le h3
  have h5 : (satR l).shows.length * 320 ≤ 40 * 320 := Nat.mul_le_mul_right _ h1
  unfold sizeLab
  omega

end Go.Proofs.YtojdobpmknadhaaGreatDoor

set_option linter.unusedVariables false
namespace Go.Proofs.YtojdobpmknadhaaGreatDoor
open Go.RowKit

def weakR (l : Lab) : List Int := if goodLab l then lastL (satL l) else []
theorem weakR_len (l : Lab) : (weakR l).length ≤ 40 := by
  unfold weakR
  split
  · rename_i h
    rw [show lastL (satL l) = partsL (satL l) (satL l).shows.length from rfl, parts_len, satL_len]
    exact (goodF_size h).2
  · simp
theorem satG_steps {l : Lab} (h : goodLab l = true) : (satL l).steps.length ≤ 12800 ∧ ∀ xs ∈ (satL l).shows, xs.length ≤ 320 := by
  have := satR_lens l
  unfold satR at this
  rw [if_pos h] at this
  exact ⟨this.2.1, this.2.2⟩
theorem satG_size {l : Lab} (h : goodLab l = true) : 1 ≤ (satL l).shows.length ∧ (satL l).shows.length ≤ 40 := by rw [satL_len]; exact goodF_size h
theorem satG_in {l : Lab} (h : goodLab l = true) : StepsN (satL l).shows.length (satL l).steps ∧ ∀ s ∈ (satL l).steps, 0 ≤ s.2.1 ∧ s.2.1 < 8 := satL_steps (goodF_steps h) (goodF_acts h)
theorem satG_marks {l : Lab} (h : goodLab l = true) : ∀ xs ∈ (satL l).shows, (∀ x ∈ xs, 0 ≤ x ∧ x < 100) ∧ xs.length ≤ 1000 := by
  intro xs hx
  refine ⟨fun x hm => ?_, by have := (satG_steps h).2 xs hx; omega⟩
  unfold satL at hx
  rw [List.mem_map] at hx
  obtain ⟨i, _, rfl⟩ := hx
  unfold progShow at hm
  rw [(unions_fold l.shows _ [] List.Pairwise.nil).2 x] at hm
  rcases hm with hm | ⟨t, _, hm⟩
  · cases hm
  · by_cases ht : t.toNat < l.shows.length
    · have := (goodF_row h ht).2.1 x hm
      omega
    · have e : l.shows.getD t.toNat [] = [] := by simp [List.getD, show l.shows.length ≤ t.toNat by omega]
      rw [e] at hm
      cases hm

set_option maxRecDepth 100000 in
set_option maxHeartbeats 4000000 in
theorem implWeaklyBisimilarOf_any (v : Value) (l : Lab) (w : World) (hs : SmallLab l) (hv : RLab w v l) :
    Calls Tryz.prog 19 #[v] w fun e w' => ∃ r, e = .returned (.tuple #[r, .bool (goodLab l)]) ∧ w'.ownsRow w.heap.size 3 1 r (weakR l).length (ints (weakR l)) ∧ Below w.heap.size w w' := by
  have HV := Lib.hid (show ∀ W, Below w.heap.size w W → RLab W v l from fun W hb => hv.below hb)
  have HG := Lib.hid (fun W (hb : Below w.heap.size w W) => implIsLabelled_any v l W hs (hv.below hb))
  have HS := Lib.hid (fun W (hg : goodLab l = true) (hb : Below w.heap.size w W) => saturated_any v l 8 W hs (by omega) (good_lab_rows hg) (goodF_size hg).1 (goodF_size hg).2 (goodF_steps hg) (hv.below hb))
  have HL := Lib.hid (fun r W (hg : goodLab l = true) (hr : RLab W r (satL l)) => bisimilar_any r (satL l) W hr (fun W hW => rounds_any r (satL l) W (satG_size hg).1 (satG_size hg).2 (by have := (satG_steps hg).1; omega) (satG_in hg).1 (satG_in hg).2 (satG_marks hg) hW))
  have HSM := Lib.hid (show goodLab l = true → SmallLab (satL l) from fun hg => by have := small_satR l; unfold satR at this; rwa [if_pos hg] at this)
  have HRG := Lib.hid (show goodLab l = true → weakR l = lastL (satL l) from fun hg => by unfold weakR; rw [hg]; rfl)
  have HRB := Lib.hid (show goodLab l = false → weakR l = [] from fun hg => by unfold weakR; rw [hg]; rfl)
  obtain ⟨sv, tv, rfl, hsv, htv⟩ := hv
  obtain ⟨A1, c1', vs, rfl, _, _, _, _⟩ := hsv
  obtain ⟨D, d, rfl, _, _⟩ := htv
  obtain ⟨W0, hW0⟩ : ∃ W0, W0 = w.alloc (.cells #[.slice A1 l.shows.length c1', .slice D l.steps.length d] 30) := ⟨_, rfl⟩
  have hz0 : Below w.heap.size w W0 := by rw [hW0]; exact (Below.refl _ _).alloc (Nat.le_refl _) _
  have hs0 : W0.heap.size = w.heap.size + 1 := by rw [hW0]; simp
  have bx0 : W0.heap[w.heap.size]? = some (.cells #[.slice A1 l.shows.length c1', .slice D l.steps.length d] 30) := by rw [hW0]; exact heap_alloc_new _ _
  have HX := Lib.hid (show ∀ W, Below W0.heap.size W0 W → W.cell? ⟨w.heap.size, 0, none⟩ = some (.slice A1 l.shows.length c1') ∧ W.cell? ⟨w.heap.size, 1, none⟩ = some (.slice D l.steps.length d) from fun W hW => by
    have := (hW.block _ (by omega)).trans bx0
    exact ⟨cell_of_row _ _ _ _ _ _ this, cell_of_row _ _ _ _ _ _ this⟩)
  obtain ⟨x0, x1⟩ := HX.out W0 (Below.refl _ _)
  have HW0 := Lib.hid hW0
  have HZ0 := Lib.hid hz0
  have hsz0 := hz0.size
  clear bx0 hW0 hz0 hs0
  rw [HW0.out] at x0 x1
  cases hg : goodLab l with
  | false =>
    have HRX := Lib.hid (HRB.out hg)
    rw [hg] at HG
    clear hg
    go_enter Tryz.func19, Tryz.ntmps19
    go_wp2_with fail
    rw [← HW0.out]
    (with_reducible refine (HG.out W0 HZ0.out).mono ?_)
    rintro e w1 ⟨rfl, hb1⟩
    have HB := Lib.hid (HZ0.out.trans (hb1.mono hsz0))
    clear hb1 x0 x1
    go_wp2_with fail
    go_ret2
    exact ⟨_, rfl, by rw [HRX.out]; exact World.ownsRow_nil _ _ _ _, HB.out⟩
  | true =>
    have HRX := Lib.hid (HRG.out hg)
    have HS2 := Lib.hid (fun W hb => HS.out W hg hb)
    have HL2 := Lib.hid (fun r W hr => HL.out r W hg hr)
    have HSM2 := Lib.hid (HSM.out hg)
    rw [hg] at HG
    clear hg HS HL HSM
    go_enter Tryz.func19, Tryz.ntmps19
    go_wp2_with fail
    rw [← HW0.out]
    (with_reducible refine (HG.out W0 HZ0.out).mono ?_)
    rintro e w1 ⟨rfl, hb1⟩
    have hb01 := HZ0.out.trans (hb1.mono hsz0)
    obtain ⟨x0, x1⟩ := HX.out w1 hb1
    have HC := Lib.hid (HS2.out w1 hb01)
    have HB := Lib.hid hb01
    have hs1 := hb01.size
    clear hb1 hb01
    go_wp2_with fail
    (with_reducible refine HC.out.mono ?_)
    rintro e w5 ⟨r5, rfl, hr5, hb5⟩
    have HC5 := Lib.hid (HL2.out r5 w5 (hr5.rlab HSM2.out))
    have HB := Lib.hid (HB.out.trans (hb5.mono hs1))
    have hs1 := HB.out.size
    clear hr5 hb5
    go_wp2_with fail
    (with_reducible refine HC5.out.mono ?_)
    rintro e w2 ⟨r, rfl, hr, hb2⟩
    obtain ⟨A2, c2, rfl, hr⟩ := owns_form hr
    have HO := Lib.hid (owns_mono hr hs1)
    have HB2 := Lib.hid (HB.out.trans (hb2.mono hs1))
    clear hr hb2 x0 x1
    go_wp2_with fail
    go_ret2
    exact ⟨_, rfl, by rw [HRX.out]; exact HO.out, HB2.out⟩

set_option maxRecDepth 100000 in
set_option maxHeartbeats 4000000 in
theorem specWeaklyBisimilarOf_any (v : Value) (l : Lab) (w : World) (hs : SmallLab l) (hv : RLab w v l) :
    Calls Tryz.prog 18 #[v] w fun e w' => ∃ r, e = .returned (.tuple #[r, .bool (goodLab l)]) ∧ w'.ownsRow w.heap.size 3 1 r (weakR l).length (ints (weakR l)) ∧ Below w.heap.size w w' := by
  have HV := Lib.hid (show ∀ W, Below w.heap.size w W → RLab W v l from fun W hb => hv.below hb)
  have HG := Lib.hid (fun W (hb : Below w.heap.size w W) => l11Good_any v l W hs (hv.below hb))
  have HS := Lib.hid (fun W (hg : goodLab l = true) (hb : Below w.heap.size w W) => show Calls Tryz.prog 47 #[v] W (fun e w' => ∃ r, e = .returned r ∧ OwnLab w' (fun b => W.heap.size ≤ b ∧ b < w'.heap.size) r (satL l) ∧ Below W.heap.size W w') from by rw [← satL_spec hg]; exact l11Saturate_any v l 8 W (by omega) (good_lab_rows hg) (goodF_size hg).1 (goodF_size hg).2 (goodF_steps hg) (hv.below hb))
  have HL := Lib.hid (fun r W (hg : goodLab l = true) (hr : RLab W r (satL l)) => l11Last_any r (satL l) W hr (fun W hW => l11Rounds_any r (satL l) W (by have := small_satR l; unfold satR at this; rwa [if_pos hg] at this) (by have := (satG_steps hg).1; omega) (satG_size hg).1 (satG_size hg).2 (satG_in hg).1 (satG_in hg).2 hW))
  have HSM := Lib.hid (show goodLab l = true → SmallLab (satL l) from fun hg => by have := small_satR l; unfold satR at this; rwa [if_pos hg] at this)
  have HRG := Lib.hid (show goodLab l = true → weakR l = lastL (satL l) from fun hg => by unfold weakR; rw [hg]; rfl)
  have HRB := Lib.hid (show goodLab l = false → weakR l = [] from fun hg => by unfold weakR; rw [hg]; rfl)
  obtain ⟨sv, tv, rfl, hsv, htv⟩ := hv
  obtain ⟨A1, c1', vs, rfl, _, _, _, _⟩ := hsv
  obtain ⟨D, d, rfl, _, _⟩ := htv
  obtain ⟨W0, hW0⟩ : ∃ W0, W0 = w.alloc (.cells #[.slice A1 l.shows.length c1', .slice D l.steps.length d] 30) := ⟨_, rfl⟩
  have hz0 : Below w.heap.size w W0 := by rw [hW0]; exact (Below.refl _ _).alloc (Nat.le_refl _) _
  have hs0 : W0.heap.size = w.heap.size + 1 := by rw [hW0]; simp
  have bx0 : W0.heap[w.heap.size]? = some (.cells #[.slice A1 l.shows.length c1', .slice D l.steps.length d] 30) := by rw [hW0]; exact heap_alloc_new _ _
  have HX := Lib.hid (show ∀ W, Below W0.heap.size W0 W → W.cell? ⟨w.heap.size, 0, none⟩ = some (.slice A1 l.shows.length c1') ∧ W.cell? ⟨w.heap.size, 1, none⟩ = some (.slice D l.steps.length d) from fun W hW => by
    have := (hW.block _ (by omega)).trans bx0
    exact ⟨cell_of_row _ _ _ _ _ _ this, cell_of_row _ _ _ _ _ _ this⟩)
  obtain ⟨x0, x1⟩ := HX.out W0 (Below.refl _ _)
  have HW0 := Lib.hid hW0
  have HZ0 := Lib.hid hz0
  have hsz0 := hz0.size
  clear bx0 hW0 hz0 hs0
  rw [HW0.out] at x0 x1
  cases hg : goodLab l with
  | false =>
    have HRX := Lib.hid (HRB.out hg)
    rw [hg] at HG
    clear hg
    go_enter Tryz.func18, Tryz.ntmps18
    go_wp2_with fail
    rw [← HW0.out]
    (with_reducible refine (HG.out W0 HZ0.out).mono ?_)
    rintro e w1 ⟨rfl, hb1⟩
    have HB := Lib.hid (HZ0.out.trans (hb1.mono hsz0))
    clear hb1 x0 x1
    go_wp2_with fail
    go_ret2
    exact ⟨_, rfl, by rw [HRX.out]; exact owns_mono (made_row _ _) HB.out.size, HB.out.alloc HB.out.size _⟩
  | true =>
    have HRX := Lib.hid (HRG.out hg)
    have HS2 := Lib.hid (fun W hb => HS.out W hg hb)
    have HL2 := Lib.hid (fun r W hr => HL.out r W hg hr)
    have HSM2 := Lib.hid (HSM.out hg)
    rw [hg] at HG
    clear hg HS HL HSM
    go_enter Tryz.func18, Tryz.ntmps18
    go_wp2_with fail
    rw [← HW0.out]
    (with_reducible refine (HG.out W0 HZ0.out).mono ?_)
    rintro e w1 ⟨rfl, hb1⟩
    have hb01 := HZ0.out.trans (hb1.mono hsz0)
    obtain ⟨x0, x1⟩ := HX.out w1 hb1
    have HC := Lib.hid (HS2.out w1 hb01)
    have HB := Lib.hid hb01
    have hs1 := hb01.size
    clear hb1 hb01
    go_wp2_with fail
    (with_reducible refine HC.out.mono ?_)
    rintro e w5 ⟨r5, rfl, hr5, hb5⟩
    have HC5 := Lib.hid (HL2.out r5 w5 (hr5.rlab HSM2.out))
    have HB := Lib.hid (HB.out.trans (hb5.mono hs1))
    have hs1 := HB.out.size
    clear hr5 hb5
    go_wp2_with fail
    (with_reducible refine HC5.out.mono ?_)
    rintro e w2 ⟨r, rfl, hr, hb2⟩
    obtain ⟨A2, c2, rfl, hr⟩ := owns_form hr
    have HO := Lib.hid (owns_mono hr hs1)
    have HB2 := Lib.hid (HB.out.trans (hb2.mono hs1))
    clear hr hb2 x0 x1
    go_wp2_with fail
    go_ret2
    exact ⟨_, rfl, by rw [HRX.out]; exact HO.out, HB2.out⟩

end Go.Proofs.YtojdobpmknadhaaGreatDoor
