/- SaturateLabels: program and reference walked. -/
import Derived.Test.YtojdobpmknadhaaProg
import Derived.Test.YtojdobpmknadhaaJ35
import Derived.Test.YtojdobpmknadhaaJ36
set_option linter.unusedVariables false
namespace Go.Proofs.Ytojdobpmknadhaa
open Go.RowKit

def satR (l : Lab) : Lab := if goodLab l then satL l else ⟨[], []⟩
theorem good_lab_rows {l : Lab} (h : goodLab l = true) : ∀ xs ∈ l.shows, xs.length ≤ 8 := by
  intro xs hx
  obtain ⟨i, hi, rfl⟩ := List.getElem_of_mem hx
  unfold goodLab goodShows at h
  simp only [Bool.and_eq_true] at h
  have h1 := allR_in h.2.2 hi
  have e : l.shows.getD i [] = l.shows[i] := by simp [List.getD, hi]
  rw [e] at h1
  generalize l.shows[i] = xs at *
  have hk : ∀ k, k < xs.length → (k : Int) ≤ xs.getD k 0 ∧ xs.getD k 0 ≤ 7 := by
    intro k
    induction k with
    | zero =>
      intro hk
      have := allR_in h1 hk
      unfold riseAt at this
      rw [Bool.and_eq_true] at this
      have := inB_true this.1
      omega
    | succ k ih =>
      intro hk
      have h2 := ih (by omega)
      have := allR_in h1 hk
      unfold riseAt at this
      simp only [Bool.and_eq_true, Bool.or_eq_true, beq_iff_eq, decide_eq_true_eq, Nat.add_sub_cancel] at this
      have h3 := inB_true this.1
      have h4 := this.2
      omega
  by_cases hl : xs.length ≤ 8
  · exact hl
  · have := hk 8 (by omega)
    omega
theorem good_lab_steps {l : Lab} (h : goodLab l = true) : StepsN l.shows.length l.steps := fun s hs => ((lab_in h).step s hs).1
theorem good_lab_acts {l : Lab} (h : goodLab l = true) : ∀ s ∈ l.steps, 0 ≤ s.2.1 ∧ s.2.1 < 8 := fun s hs => ((lab_in h).step s hs).2
theorem satL_spec {l : Lab} (h : goodLab l = true) : (⟨(List.range l.shows.length).map (specShow l.shows.length l.shows l.steps), specSat l.shows.length l.steps⟩ : Lab) = satL l := by
  unfold satL
  rw [spec_prog (good_lab_steps h) (good_lab_acts h)]
  congr 1
  exact List.map_congr_left fun i hi => show_same (good_lab_steps h) (List.mem_range.1 hi)

set_option maxRecDepth 100000 in
set_option maxHeartbeats 2000000 in
theorem implSaturateLabels_any (v : Value) (l : Lab) (w : World) (hs : SmallLab l) (hv : RLab w v l) :
    Calls Try.prog 22 #[v] w fun e w' => ∃ r, e = .returned (.tuple #[r, .bool (goodLab l)]) ∧ OwnLab w' (fun b => w.heap.size ≤ b ∧ b < w'.heap.size) r (satR l) ∧ Below w.heap.size w w' := by
  have HV := Lib.hid (show ∀ W, Below w.heap.size w W → RLab W v l from fun W hb => hv.below hb)
  have HG := Lib.hid (fun W (hb : Below w.heap.size w W) => implIsLabelled_any v l W hs (hv.below hb))
  have HI := Lib.hid (fun W (hg : goodLab l = true) (hb : Below w.heap.size w W) => saturated_any v l 8 W hs (by omega) (good_lab_rows hg) (lab_in hg).some_ (lab_in hg).most (good_lab_steps hg) (hv.below hb))
  have HRG := Lib.hid (show goodLab l = true → satR l = _ from fun hg => show satR l = satL l from by unfold satR; rw [hg]; rfl)
  have HRB := Lib.hid (show goodLab l = false → satR l = ⟨[], []⟩ from fun hg => by unfold satR; rw [hg]; rfl)
  obtain ⟨sv, tv, rfl, hsv, htv⟩ := hv
  obtain ⟨A, c0, vs, rfl, _, _, _, _⟩ := hsv
  obtain ⟨D, d, rfl, _, _⟩ := htv
  obtain ⟨W0, hW0⟩ : ∃ W0, W0 = (w.alloc (.cells #[.slice A l.shows.length c0, .slice D l.steps.length d] 27)).alloc (.cells #[.slice none 0 0, .slice none 0 0] 27) := ⟨_, rfl⟩
  have hz0 : Below w.heap.size w W0 := by rw [hW0]; exact ((Below.refl _ _).alloc (Nat.le_refl _) _).alloc (by simp) _
  have hs0 : W0.heap.size = w.heap.size + 1 + 1 := by rw [hW0]; simp
  have bx0 : W0.heap[w.heap.size]? = some (.cells #[.slice A l.shows.length c0, .slice D l.steps.length d] 27) := by rw [hW0]; exact (heap_alloc_old _ _ (by simp)).trans (heap_alloc_new _ _)
  have br0 : W0.heap[w.heap.size + 1]? = some (.cells #[.slice none 0 0, .slice none 0 0] 27) := by rw [hW0]; exact heap_alloc2_new _ _ _
  have HX := Lib.hid (show ∀ W, Below W0.heap.size W0 W → (W.cell? ⟨w.heap.size, 0, none⟩ = some (.slice A l.shows.length c0) ∧ W.cell? ⟨w.heap.size, 1, none⟩ = some (.slice D l.steps.length d)) ∧ W.heap[w.heap.size + 1]? = some (.cells #[.slice none 0 0, .slice none 0 0] 27) from fun W hW => by
    have := (hW.block _ (by omega)).trans bx0
    exact ⟨⟨cell_of_row _ _ _ _ _ _ this, cell_of_row _ _ _ _ _ _ this⟩, (hW.block _ (by omega)).trans br0⟩)
  have HZ0 := Lib.hid hz0
  have hsz0 : w.heap.size ≤ W0.heap.size := by omega
  have hsz02 : w.heap.size + 1 < W0.heap.size := by omega
  have HFIN := Lib.hid (show ∀ W x y R, Below W0.heap.size W0 W → OwnLab W (fun b => W0.heap.size ≤ b ∧ b < W.heap.size) (.agg #[x, y]) R → OwnLab ((W.setCell ⟨w.heap.size + 1, 0, none⟩ x).setCell ⟨w.heap.size + 1, 1, none⟩ y) (fun b => w.heap.size ≤ b ∧ b < ((W.setCell ⟨w.heap.size + 1, 0, none⟩ x).setCell ⟨w.heap.size + 1, 1, none⟩ y).heap.size) (.agg #[x, y]) R ∧ Below w.heap.size w ((W.setCell ⟨w.heap.size + 1, 0, none⟩ x).setCell ⟨w.heap.size + 1, 1, none⟩ y) ∧ ((W.setCell ⟨w.heap.size + 1, 0, none⟩ x).setCell ⟨w.heap.size + 1, 1, none⟩ y).cell? ⟨w.heap.size + 1, 0, none⟩ = some x ∧ ((W.setCell ⟨w.heap.size + 1, 0, none⟩ x).setCell ⟨w.heap.size + 1, 1, none⟩ y).cell? ⟨w.heap.size + 1, 1, none⟩ = some y from fun W x y R hW ho => by
    have hk9 : Kept (fun q => q = w.heap.size + 1) W ((W.setCell ⟨w.heap.size + 1, 0, none⟩ x).setCell ⟨w.heap.size + 1, 1, none⟩ y) := Kept.setCell (S := fun q => q = w.heap.size + 1) (Kept.setCell (S := fun q => q = w.heap.size + 1) (Kept.refl _ W) (p := ⟨w.heap.size + 1, 0, none⟩) rfl x) (p := ⟨w.heap.size + 1, 1, none⟩) rfl y
    obtain ⟨k0, k1, _, _⟩ := box_two (heap_setCell_same _ (w.heap.size + 1) 1 _ _ y (heap_setCell_same _ (w.heap.size + 1) 0 _ _ x (HX.out W hW).2))
    exact ⟨(ho.kept hk9 (fun q h1 h2 => by omega)).wide (fun q hq => ⟨by omega, Nat.lt_of_lt_of_le hq.2 hk9.size⟩), ((HZ0.out.trans (hW.mono hsz0)).setCell (p := ⟨w.heap.size + 1, 0, none⟩) (by dsimp only; omega) x).setCell (p := ⟨w.heap.size + 1, 1, none⟩) (by dsimp only; omega) y, k0, k1⟩)
  have HW0 := Lib.hid hW0
  clear bx0 br0 hz0 hs0 hW0
  cases hg : goodLab l with
  | false =>
    rw [hg] at HG
    have HRX := Lib.hid (HRB.out hg)
    clear hg
    go_enter Try.func22, Try.ntmps22
    go_wp2_with fail
    rw [← HW0.out]
    go_wp2_with fail
    refine (HG.out W0 HZ0.out).mono ?_
    rintro e w1 ⟨rfl, hb1⟩
    obtain ⟨⟨x0, x1⟩, hr⟩ := HX.out w1 hb1
    obtain ⟨r0, r1, r2, r3⟩ := box_two hr
    have HB := Lib.hid hb1
    clear hb1 hr
    go_wp2_with fail
    obtain ⟨f1, f2, k0, k1⟩ := HFIN.out w1 (.slice none 0 0) (.slice none 0 0) ⟨[], []⟩ HB.out (ownLab_nil _ _)
    exact bodyPost_ret (v := .tuple #[.agg #[.slice none 0 0, .slice none 0 0], .bool false]) (by simp [results, Try.results22, go_sem, *]) rfl ⟨_, rfl, by rw [HRX.out]; exact f1, f2⟩
  | true =>
    rw [hg] at HG
    have HRX := Lib.hid (HRG.out hg)
    have HI2 := Lib.hid (fun W hb => HI.out W hg hb)
    clear hg HI
    go_enter Try.func22, Try.ntmps22
    go_wp2_with fail
    rw [← HW0.out]
    go_wp2_with fail
    refine (HG.out W0 HZ0.out).mono ?_
    rintro e w1 ⟨rfl, hb1⟩
    obtain ⟨⟨x0, x1⟩, hr⟩ := HX.out w1 hb1
    have hs1 := hb1.size
    have HB := Lib.hid hb1
    clear hb1 hr
    go_wp2_with fail
    refine (HI2.out w1 (HZ0.out.trans (HB.out.mono hsz0))).mono ?_
    rintro e w2 ⟨r, rfl, ho, hb2⟩
    have hb02 := HB.out.trans (hb2.mono hs1)
    obtain ⟨B1, d1, B2, d2, rfl⟩ := ho.form
    obtain ⟨⟨x0, x1⟩, hr⟩ := HX.out w2 hb02
    obtain ⟨r0, r1, r2, r3⟩ := box_two hr
    have ho2 := ho.wide (T := fun b => W0.heap.size ≤ b ∧ b < w2.heap.size) (fun q hq => ⟨Nat.le_trans hs1 hq.1, hq.2⟩)
    rw [← HRX.out] at ho2 ⊢
    have HFX := Lib.hid (HFIN.out w2 _ _ _ hb02 ho2)
    clear ho hb2 hb02 hr ho2
    go_wp2_with fail
    obtain ⟨f1, f2, k0, k1⟩ := HFX.out
    exact bodyPost_ret (v := .tuple #[.agg #[.slice B1 (satR l).shows.length d1, .slice B2 (satR l).steps.length d2], .bool true]) (by simp [results, Try.results22, go_sem, *]) rfl ⟨_, rfl, f1, f2⟩

set_option maxRecDepth 100000 in
set_option maxHeartbeats 2000000 in
theorem specSaturateLabels_any (v : Value) (l : Lab) (w : World) (hs : SmallLab l) (hv : RLab w v l) :
    Calls Try.prog 21 #[v] w fun e w' => ∃ r, e = .returned (.tuple #[r, .bool (goodLab l)]) ∧ OwnLab w' (fun b => w.heap.size ≤ b ∧ b < w'.heap.size) r (satR l) ∧ Below w.heap.size w w' := by
  have HV := Lib.hid (show ∀ W, Below w.heap.size w W → RLab W v l from fun W hb => hv.below hb)
  have HG := Lib.hid (fun W (hb : Below w.heap.size w W) => l11Good_any v l W hs (hv.below hb))
  have HI := Lib.hid (fun W (hg : goodLab l = true) (hb : Below w.heap.size w W) => l11Saturate_any v l 8 W (by omega) (good_lab_rows hg) (lab_in hg).some_ (lab_in hg).most (good_lab_steps hg) (hv.below hb))
  have HRG := Lib.hid (show goodLab l = true → satR l = (⟨(List.range l.shows.length).map (specShow l.shows.length l.shows l.steps), specSat l.shows.length l.steps⟩ : Lab) from fun hg => (show satR l = satL l from by unfold satR; rw [hg]; rfl).trans (satL_spec hg).symm)
  have HRB := Lib.hid (show goodLab l = false → satR l = ⟨[], []⟩ from fun hg => by unfold satR; rw [hg]; rfl)
  obtain ⟨sv, tv, rfl, hsv, htv⟩ := hv
  obtain ⟨A, c0, vs, rfl, _, _, _, _⟩ := hsv
  obtain ⟨D, d, rfl, _, _⟩ := htv
  obtain ⟨W0, hW0⟩ : ∃ W0, W0 = (w.alloc (.cells #[.slice A l.shows.length c0, .slice D l.steps.length d] 27)).alloc (.cells #[.slice none 0 0, .slice none 0 0] 27) := ⟨_, rfl⟩
  have hz0 : Below w.heap.size w W0 := by rw [hW0]; exact ((Below.refl _ _).alloc (Nat.le_refl _) _).alloc (by simp) _
  have hs0 : W0.heap.size = w.heap.size + 1 + 1 := by rw [hW0]; simp
  have bx0 : W0.heap[w.heap.size]? = some (.cells #[.slice A l.shows.length c0, .slice D l.steps.length d] 27) := by rw [hW0]; exact (heap_alloc_old _ _ (by simp)).trans (heap_alloc_new _ _)
  have br0 : W0.heap[w.heap.size + 1]? = some (.cells #[.slice none 0 0, .slice none 0 0] 27) := by rw [hW0]; exact heap_alloc2_new _ _ _
  have HX := Lib.hid (show ∀ W, Below W0.heap.size W0 W → (W.cell? ⟨w.heap.size, 0, none⟩ = some (.slice A l.shows.length c0) ∧ W.cell? ⟨w.heap.size, 1, none⟩ = some (.slice D l.steps.length d)) ∧ W.heap[w.heap.size + 1]? = some (.cells #[.slice none 0 0, .slice none 0 0] 27) from fun W hW => by
    have := (hW.block _ (by omega)).trans bx0
    exact ⟨⟨cell_of_row _ _ _ _ _ _ this, cell_of_row _ _ _ _ _ _ this⟩, (hW.block _ (by omega)).trans br0⟩)
  have HZ0 := Lib.hid hz0
  have hsz0 : w.heap.size ≤ W0.heap.size := by omega
  have hsz02 : w.heap.size + 1 < W0.heap.size := by omega
  have HFIN := Lib.hid (show ∀ W x y R, Below W0.heap.size W0 W → OwnLab W (fun b => W0.heap.size ≤ b ∧ b < W.heap.size) (.agg #[x, y]) R → OwnLab ((W.setCell ⟨w.heap.size + 1, 0, none⟩ x).setCell ⟨w.heap.size + 1, 1, none⟩ y) (fun b => w.heap.size ≤ b ∧ b < ((W.setCell ⟨w.heap.size + 1, 0, none⟩ x).setCell ⟨w.heap.size + 1, 1, none⟩ y).heap.size) (.agg #[x, y]) R ∧ Below w.heap.size w ((W.setCell ⟨w.heap.size + 1, 0, none⟩ x).setCell ⟨w.heap.size + 1, 1, none⟩ y) ∧ ((W.setCell ⟨w.heap.size + 1, 0, none⟩ x).setCell ⟨w.heap.size + 1, 1, none⟩ y).cell? ⟨w.heap.size + 1, 0, none⟩ = some x ∧ ((W.setCell ⟨w.heap.size + 1, 0, none⟩ x).setCell ⟨w.heap.size + 1, 1, none⟩ y).cell? ⟨w.heap.size + 1, 1, none⟩ = some y from fun W x y R hW ho => by
    have hk9 : Kept (fun q => q = w.heap.size + 1) W ((W.setCell ⟨w.heap.size + 1, 0, none⟩ x).setCell ⟨w.heap.size + 1, 1, none⟩ y) := Kept.setCell (S := fun q => q = w.heap.size + 1) (Kept.setCell (S := fun q => q = w.heap.size + 1) (Kept.refl _ W) (p := ⟨w.heap.size + 1, 0, none⟩) rfl x) (p := ⟨w.heap.size + 1, 1, none⟩) rfl y
    obtain ⟨k0, k1, _, _⟩ := box_two (heap_setCell_same _ (w.heap.size + 1) 1 _ _ y (heap_setCell_same _ (w.heap.size + 1) 0 _ _ x (HX.out W hW).2))
    exact ⟨(ho.kept hk9 (fun q h1 h2 => by omega)).wide (fun q hq => ⟨by omega, Nat.lt_of_lt_of_le hq.2 hk9.size⟩), ((HZ0.out.trans (hW.mono hsz0)).setCell (p := ⟨w.heap.size + 1, 0, none⟩) (by dsimp only; omega) x).setCell (p := ⟨w.heap.size + 1, 1, none⟩) (by dsimp only; omega) y, k0, k1⟩)
  have HW0 := Lib.hid hW0
  clear bx0 br0 hz0 hs0 hW0
  cases hg : goodLab l with
  | false =>
    rw [hg] at HG
    have HRX := Lib.hid (HRB.out hg)
    clear hg
    go_enter Try.func21, Try.ntmps21
    go_wp2_with fail
    rw [← HW0.out]
    go_wp2_with fail
    refine (HG.out W0 HZ0.out).mono ?_
    rintro e w1 ⟨rfl, hb1⟩
    obtain ⟨⟨x0, x1⟩, hr⟩ := HX.out w1 hb1
    obtain ⟨r0, r1, r2, r3⟩ := box_two hr
    have HB := Lib.hid hb1
    clear hb1 hr
    go_wp2_with fail
    obtain ⟨f1, f2, k0, k1⟩ := HFIN.out w1 (.slice none 0 0) (.slice none 0 0) ⟨[], []⟩ HB.out (ownLab_nil _ _)
    exact bodyPost_ret (v := .tuple #[.agg #[.slice none 0 0, .slice none 0 0], .bool false]) (by simp [results, Try.results21, go_sem, *]) rfl ⟨_, rfl, by rw [HRX.out]; exact f1, f2⟩
  | true =>
    rw [hg] at HG
    have HRX := Lib.hid (HRG.out hg)
    have HI2 := Lib.hid (fun W hb => HI.out W hg hb)
    clear hg HI
    go_enter Try.func21, Try.ntmps21
    go_wp2_with fail
    rw [← HW0.out]
    go_wp2_with fail
    refine (HG.out W0 HZ0.out).mono ?_
    rintro e w1 ⟨rfl, hb1⟩
    obtain ⟨⟨x0, x1⟩, hr⟩ := HX.out w1 hb1
    have hs1 := hb1.size
    have HB := Lib.hid hb1
    clear hb1 hr
    go_wp2_with fail
    refine (HI2.out w1 (HZ0.out.trans (HB.out.mono hsz0))).mono ?_
    rintro e w2 ⟨r, rfl, ho, hb2⟩
    have hb02 := HB.out.trans (hb2.mono hs1)
    obtain ⟨B1, d1, B2, d2, rfl⟩ := ho.form
    obtain ⟨⟨x0, x1⟩, hr⟩ := HX.out w2 hb02
    obtain ⟨r0, r1, r2, r3⟩ := box_two hr
    have ho2 := ho.wide (T := fun b => W0.heap.size ≤ b ∧ b < w2.heap.size) (fun q hq => ⟨Nat.le_trans hs1 hq.1, hq.2⟩)
    rw [← HRX.out] at ho2 ⊢
    have HFX := Lib.hid (HFIN.out w2 _ _ _ hb02 ho2)
    clear ho hb2 hb02 hr ho2
    go_wp2_with fail
    obtain ⟨f1, f2, k0, k1⟩ := HFX.out
    exact bodyPost_ret (v := .tuple #[.agg #[.slice B1 (satR l).shows.length d1, .slice B2 (satR l).steps.length d2], .bool true]) (by simp [results, Try.results21, go_sem, *]) rfl ⟨_, rfl, f1, f2⟩

end Go.Proofs.Ytojdobpmknadhaa
