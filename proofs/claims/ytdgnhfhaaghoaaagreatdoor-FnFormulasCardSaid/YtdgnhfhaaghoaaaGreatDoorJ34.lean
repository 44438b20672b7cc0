/- Which states satisfy a formula: the conjunction and the step, program walked. -/
import Derived.Test.YtdgnhfhaaghoaaaGreatDoorProg
import Derived.Test.YtdgnhfhaaghoaaaGreatDoorJ28
import Derived.Test.YtdgnhfhaaghoaaaGreatDoorJ33
set_option linter.unusedSimpArgs false
set_option linter.unusedVariables false
namespace Go.Proofs.YtdgnhfhaaghoaaaGreatDoor
open Go.RowKit

set_option maxRecDepth 100000 in
set_option maxHeartbeats 2000000 in
theorem sat_and (lv : Value) (l : Lab) (A : Option Addr) (c : Nat) (f : List Int) (k : Nat) (p2 : Int) (sub sec : List Bool) (w : World) (hs : SmallLab l) (hl : RLab w lv l) (hf : f.length ≤ 200) (hA : Cells w A (ints f)) (hk : k < f.length) (h0 : f.getD k 0 = 3)
    (hsub : sub.length = l.shows.length) (hsec : sec.length = l.shows.length)
    (HE : ∀ W, Below w.heap.size w W → Calls Tryz.prog 76 #[.slice A f.length c, .int .i64 ((k : Int) + 1)] W fun e W' => e = .returned (.int .i64 p2) ∧ W = W')
    (H2 : ∀ W, Below w.heap.size w W → Calls Tryz.prog 62 #[lv, .slice A f.length c, .int .i64 p2] W fun e W' => ∃ v, e = .returned v ∧ W'.ownsRow W.heap.size 4 1 v l.shows.length (bools sec) ∧ Below W.heap.size W W')
    (H : ∀ W, Below w.heap.size w W → Calls Tryz.prog 62 #[lv, .slice A f.length c, .int .i64 ((k : Int) + 1)] W fun e W' => ∃ v, e = .returned v ∧ W'.ownsRow W.heap.size 4 1 v l.shows.length (bools sub) ∧ Below W.heap.size W W') :
    Calls Tryz.prog 62 #[lv, .slice A f.length c, .int .i64 k] w fun e w' => ∃ v, e = .returned v ∧ w'.ownsRow w.heap.size 4 1 v l.shows.length (bools (List.zipWith (· && ·) sub sec)) ∧ Below w.heap.size w w' := by
  obtain ⟨i0, hi, hz0, hz1, hz2⟩ := info_parts info_bool
  obtain ⟨sv, tv, rfl, hsv, htv⟩ := hl
  obtain ⟨B, d, vs, rfl, hm, hvl, hcB, hrow⟩ := hsv
  have hn := hs.1
  obtain ⟨b, o, rfl, hc⟩ := hA.int (k := k) (by omega)
  have c00 := hc k (by omega)
  rw [h0] at c00
  have HC0 := Lib.hid c00
  have HH := Lib.hid H
  have HHE := Lib.hid HE
  have HH2 := Lib.hid H2
  clear c00 hc hA H HE H2 hvl hcB hrow htv
  obtain ⟨res, hres⟩ : ∃ res, res = List.zipWith (· && ·) sub sec := ⟨_, rfl⟩
  have hlen : res.length = l.shows.length := by rw [hres]; simp [hsub, hsec]
  have HAT := Lib.hid (show ∀ (j : Nat) x y, sub[j]? = some x → sec[j]? = some y → res[j]? = some (x && y) from fun j x y h1 h2 => by rw [hres, List.getElem?_zipWith, h1, h2])
  have HRES := Lib.hid hres
  clear hres
  go_enter Tryz.func62, Tryz.ntmps62
  go_wp2_with (first | (at_make; refine wpList_make_full _ rfl _ _ 79 rfl w.heap.size 4 i0 _ 1 Tryz.underlying79 hi hz0 hz1 _ _ _ _ l.shows.length rfl rfl rfl rfl (by rw [hz2]; omega) (by unfold maxLen; omega) (by simp) ?_; intro w1 hown hgrow; have hbel : Below w.heap.size w w1 := ((Below.refl _ _).alloc (Nat.le_refl _) _).grown hgrow (by simp) (by simp); have c0 := cell_below hbel HC0.out (lt_of_cell HC0.out); have q0 := cell_of_row w1 w.heap.size 0 _ _ _ ((hgrow.block w.heap.size (by simp) (by simp)).trans (heap_alloc_new _ _)); have q1 := cell_of_row w1 w.heap.size 1 _ _ _ ((hgrow.block w.heap.size (by simp) (by simp)).trans (heap_alloc_new _ _))) | fail)
  rw [fill_start _ res hlen, World.size_alloc] at hown
  have hw : IntKind.i64.wrap ((k : Int) + 1) = (k : Int) + 1 := IntWalk.i64_in _ (by omega)
  have HQ := Lib.hid (show Calls Tryz.prog 76 #[.slice (some ⟨b, o, none⟩) f.length c, .int .i64 ((k : Int) + 1)] w1.drew (fun e w' => e = .returned (.int .i64 p2) ∧ w' = w1.drew) from (HHE.out w1.drew hbel.drew).mono fun _ _ h => ⟨h.1, h.2.symm⟩)
  refine wp_region_still_tail 6 (by kernel_rfl) (by kernel_rfl) ?_
  simp only [List.take_succ_cons, List.take_zero, List.drop_succ_cons, List.drop_zero]
  repeat (first | still_step | still_call HQ.out)
  refine wpStill_nil ?_
  clear hw
  change wpList _ _ _ _ _ w1.drew
  go_wp2_with fail
  refine (HH2.out w1.drew hbel.drew).mono ?_
  rintro e w1a ⟨v1, rfl, ho1, hb1⟩
  obtain ⟨A1, c1, rfl, ho1⟩ := owns_form ho1
  have hs1 : w1.heap.size ≤ w1a.heap.size := hb1.size
  have q0a := cell_below hb1 (show w1.drew.cell? _ = _ from q0) (lt_of_cell q0)
  have q1a := cell_below hb1 (show w1.drew.cell? _ = _ from q1) (lt_of_cell q1)
  have hlt1 : w.heap.size + 1 < w1.heap.size := (hown.lt _ rfl).2
  have hown1 := owns_below (show w1.drew.ownsRow _ _ _ _ _ _ from hown) hb1 (Nat.le_refl _)
  have hbel1 : Below w.heap.size w w1a := hbel.drew.trans (hb1.mono hbel.size)
  clear hb1
  go_wp2_with fail
  refine (HH.out w1a hbel1).mono ?_
  rintro e w2 ⟨v2, rfl, ho2, hb2⟩
  obtain ⟨A2, c2, rfl, ho2⟩ := owns_form ho2
  have HO1 := Lib.hid (show Own w2 (fun b => w1.heap.size ≤ b) (.slice A1 l.shows.length c1) l.shows.length (bools sec) from ((Own.of_owns ho1).below hb2 (Nat.le_refl _)).mono (fun g hg => (ho1.lt g hg).1))
  have hown2 := owns_below hown1 hb2 (Nat.le_refl _)
  have hbel2 := hbel1.trans (hb2.mono hbel1.size)
  have HO2 := Lib.hid (show Own w2 (fun b => w1.heap.size ≤ b) (.slice A2 l.shows.length c2) l.shows.length (bools sub) from (Own.of_owns ho2).mono (fun g hg => Nat.le_trans hs1 (ho2.lt g hg).1))
  clear hgrow c0 q0 q1 q0a q1a hown hown1 ho1 ho2 hbel hbel1 hb2
  go_wp2_with fail
  go_loopw [132] (fun i wr => ∃ j : Nat, j ≤ l.shows.length ∧ i = .int .i64 j ∧ wr.ownsRow w.heap.size 4 1 (.slice (some ⟨w.heap.size + 1, 0, none⟩) l.shows.length l.shows.length) l.shows.length (bools (fillV res false j)) ∧ Below w.heap.size w wr ∧ Kept (fun b => b = w.heap.size + 1) w2 wr)
    (fun i _ => l.shows.length - (intOf i).toNat)
  case atStart => exact ⟨0, Nat.zero_le _, rfl, hown2, hbel2, Kept.refl _ _⟩
  case round =>
    clear hown2 hbel2
    obtain ⟨j, hj, rfl, hown, hbel, hkp⟩ := hrel
    by_cases hlt : j < l.shows.length
    · obtain ⟨A', c', e, hcs⟩ := (HO2.out.kept hkp (fun b h1 h2 => by omega)).cells
      cases e
      obtain ⟨b2, o2, rfl, hcb⟩ := hcs.at_ (k := j) (by simp; omega)
      obtain ⟨A3, c3, e, hcs3⟩ := (HO1.out.kept hkp (fun b h1 h2 => by omega)).cells
      cases e
      obtain ⟨b3, o3, rfl, hcb3⟩ := hcs3.at_ (k := j) (by simp; omega)
      have hjs : j < sub.length := by omega
      have hjs3 : j < sec.length := by omega
      have hcj := hcb j (.bool sub[j]) (by simp [hjs])
      have hcj3 := hcb3 j (.bool sec[j]) (by simp [hjs3])
      have hx := HAT.out j _ _ (List.getElem?_eq_getElem hjs) (List.getElem?_eq_getElem hjs3)
      generalize sub[j] = x at *
      generalize sec[j] = y at *
      obtain ⟨g1, g2, g3⟩ := fill_step hown hlen hlt hx
      have HN := Lib.hid g3
      have HB := Lib.hid (hbel.setCell (p := ⟨w.heap.size + 1, j, none⟩) (by simp) (.bool (x && y)))
      have HBD := Lib.hid (hbel.drew.setCell (p := ⟨w.heap.size + 1, j, none⟩) (by simp) (.bool (x && y)))
      have HK := Lib.hid (hkp.setCell (p := ⟨w.heap.size + 1, j, none⟩) rfl (.bool (x && y)))
      clear hown hbel g3 hcb hcs hkp hcb3 hcs3
      have b0 : (0 : Int) ≤ (j : Int) := by omega
      have b1 : (j : Int) < (l.shows.length : Int) := by omega
      cases x
      · go_wp2_with fail
        go_roundw
        case rel => exact ⟨j + 1, by omega, by go_num, HN.out, HB.out, HK.out⟩
        case measure => simp [intOf]; omega
      · go_wp2_with fail
        go_roundw
        case rel => exact ⟨j + 1, by omega, by go_num, HN.out, HB.out, HK.out⟩
        case measure => simp [intOf]; omega
    · obtain rfl : j = l.shows.length := by omega
      rw [fill_end hlen] at hown
      have HO := Lib.hid hown
      clear hown
      go_wp2_with fail
      go_ret
      exact ⟨_, rfl, by rw [← HRES.out]; exact HO.out, hbel⟩

theorem still_cut {P : Program} {ops : Array Oper} {w : World} {Q : Act → Prop} (n : Nat) {l : List Oper} {a : Act}
    (h : ∀ K : Act → Prop, (∀ a', wpStill P ops w Q (l.drop n) a' → K a') → wpStill P ops w K (l.take n) a) : wpStill P ops w Q l a := by
  have H := h _ (fun _ h => h)
  clear h
  induction n generalizing l a with
  | zero => exact H
  | succ n ih =>
    cases l with
    | nil => exact H
    | cons o l =>
      simp only [List.take_succ_cons, List.drop_succ_cons, wpStill] at H ⊢
      split at H
      · rename_i hw
        rw [if_pos hw]
        exact Oper.still_mono (fun a h => ih h) H
      · rename_i hw
        rw [if_neg hw]
        exact ih H

set_option maxRecDepth 100000 in
set_option maxHeartbeats 20000000 in
theorem sat_can (lv : Value) (l : Lab) (A : Option Addr) (c : Nat) (f : List Int) (k : Nat) (sub : List Bool) (w : World) (hs : SmallLab l) (hl : RLab w lv l) (hf : f.length ≤ 200) (hA : Cells w A (ints f)) (hk : k + 1 < f.length) (h0 : f.getD k 0 = 4)
    (hsub : sub.length = l.shows.length) (hg : ∀ s ∈ l.steps, ∃ i j : Nat, s.1 = (i : Int) ∧ s.2.2 = (j : Int) ∧ i < l.shows.length ∧ j < l.shows.length)
    (H : ∀ W, Below w.heap.size w W → Calls Tryz.prog 62 #[lv, .slice A f.length c, .int .i64 ((k : Int) + 2)] W fun e W' => ∃ v, e = .returned v ∧ W'.ownsRow W.heap.size 4 1 v l.shows.length (bools sub) ∧ Below W.heap.size W W') :
    Calls Tryz.prog 62 #[lv, .slice A f.length c, .int .i64 k] w fun e w' => ∃ v, e = .returned v ∧ w'.ownsRow w.heap.size 4 1 v l.shows.length (bools (rowT l.shows.length (f.getD (k + 1) 0) sub l.steps)) ∧ Below w.heap.size w w' := by
  obtain ⟨i0, hi, hz0, hz1, hz2⟩ := info_parts info_bool
  obtain ⟨sv, tv, rfl, hsv, htv⟩ := hl
  obtain ⟨B, d, vs, rfl, hm, hvl, hcB, hrow⟩ := hsv
  have hn := hs.1
  have hn3 := hs.2.1
  have HT := Lib.hid (show ∀ W, Below w.heap.size w W → RA3 W tv l.steps from fun W hb => htv.below hb)
  obtain ⟨D, dd, rfl, hdm, _⟩ := htv
  obtain ⟨b, o, rfl, hc⟩ := hA.int (k := k) (by omega)
  have c00 := hc k (by omega)
  have c10 := hc (k + 1) hk
  rw [h0] at c00
  have HC0 := Lib.hid c00
  have HC1 := Lib.hid c10
  have HH := Lib.hid H
  have HG := Lib.hid hg
  clear c00 c10 hc hA H hvl hcB hrow hg
  generalize f.getD (k + 1) 0 = lab at *
  have hr0 : (madeCells (Value.bool false).cells (l.shows.length * 1)).toList = bools (rowT l.shows.length lab sub (l.steps.take 0)) := by
    rw [List.take_zero, rowT_nil, fill_start _ (List.replicate l.shows.length false) (by simp), fillV_zero]
    simp
  have HR0 := Lib.hid hr0
  clear hr0
  go_enter Tryz.func62, Tryz.ntmps62
  go_wp2_with (first | (at_make; refine wpList_make_full _ rfl _ _ 79 rfl w.heap.size 4 i0 _ 1 Tryz.underlying79 hi hz0 hz1 _ _ _ _ l.shows.length rfl rfl rfl rfl (by rw [hz2]; omega) (by unfold maxLen; omega) (by simp) ?_; intro w1 hown hgrow; have hbel : Below w.heap.size w w1 := ((Below.refl _ _).alloc (Nat.le_refl _) _).grown hgrow (by simp) (by simp); have c0 := cell_below hbel HC0.out (lt_of_cell HC0.out); have q0 := cell_of_row w1 w.heap.size 0 _ _ _ ((hgrow.block w.heap.size (by simp) (by simp)).trans (heap_alloc_new _ _)); have q1 := cell_of_row w1 w.heap.size 1 _ _ _ ((hgrow.block w.heap.size (by simp) (by simp)).trans (heap_alloc_new _ _))) | fail)
  rw [HR0.out, World.size_alloc] at hown
  refine (HH.out w1 hbel).mono ?_
  rintro e w2 ⟨v2, rfl, ho2, hb2⟩
  obtain ⟨A2, c2, rfl, ho2⟩ := owns_form ho2
  have hown2 := owns_below hown hb2 (Nat.le_refl _)
  have hbel2 := hbel.trans (hb2.mono hbel.size)
  have p1 := cell_below hb2 q1 (lt_of_cell q1)
  have hbx := (hb2.block w.heap.size (lt_of_cell q1)).trans ((hgrow.block w.heap.size (by simp) (by simp)).trans (heap_alloc_new _ _))
  have HO2 := Lib.hid (show Own w2 (fun b => w1.heap.size ≤ b) (.slice A2 l.shows.length c2) l.shows.length (bools sub) from (Own.of_owns ho2).mono (fun g hg => (ho2.lt g hg).1))
  have hlt1 : w.heap.size + 1 < w1.heap.size := (hown.lt _ rfl).2
  clear hgrow c0 q0 q1 hown ho2 hbel hb2
  go_wp2_with fail
  go_loopw [34] (fun i wr => ∃ j : Nat, j ≤ l.steps.length ∧ i = .int .i64 j ∧ wr.ownsRow w.heap.size 4 1 (.slice (some ⟨w.heap.size + 1, 0, none⟩) l.shows.length l.shows.length) l.shows.length (bools (rowT l.shows.length lab sub (l.steps.take j))) ∧ Below w.heap.size w wr ∧ Kept (fun b => b = w.heap.size + 1) w2 wr)
    (fun i _ => l.steps.length - (intOf i).toNat)
  case atStart => exact ⟨0, Nat.zero_le _, rfl, hown2, hbel2, Kept.refl _ _⟩
  case round =>
    clear hown2 hbel2
    obtain ⟨j, hj, rfl, hown, hbel, hkp⟩ := hrel
    by_cases hlt : j < l.steps.length
    · obtain ⟨A', c', e, hcs⟩ := (HO2.out.kept hkp (fun b h1 h2 => by omega)).cells
      cases e
      obtain ⟨bD, oD, cD, e, hk0, hk1, hk2⟩ := (HT.out wr hbel).at_ (List.getElem?_eq_getElem hlt)
      cases e
      obtain ⟨p, q, hp, hq, hpn, hqn⟩ := HG.out _ (List.getElem_mem hlt)
      have HSTEP := Lib.hid (rowT_step (n := l.shows.length) (d := lab) (ends := sub) (List.getElem?_eq_getElem hlt) hp hpn)
      have hq2 : l.steps[j].2.2.toNat = q := by omega
      rw [hq2] at HSTEP
      obtain ⟨b2, o2, rfl, hcb⟩ := hcs.at_ (k := q) (by simp; omega)
      have hjs : q < sub.length := by omega
      have hcj := hcb q (.bool sub[q]) (by simp [hjs])
      rw [show sub.getD q false = sub[q] by simp [List.getD, hjs]] at HSTEP
      have hx := rowT_at (d := lab) (ends := sub) (ss := l.steps.take j) hpn
      rw [hp] at hk0
      rw [hq] at hk2
      clear hp hq hq2
      generalize l.steps[j] = s at *
      generalize sub[q] = y at *
      generalize canT lab sub (l.steps.take j) p = x at *
      obtain ⟨g1, g2, _⟩ := row_cell hown (rowT_len _ _ _ _) hpn hx true
      have b0 : (0 : Int) ≤ (j : Int) := by omega
      have b1 : (j : Int) < (l.steps.length : Int) := by omega
      have b2 : (0 : Int) ≤ (p : Int) := by omega
      have b3 : (p : Int) < (l.shows.length : Int) := by omega
      have b4 : (0 : Int) ≤ (q : Int) := by omega
      have b5 : (q : Int) < (l.shows.length : Int) := by omega
      clear hcb hcs
      have hw : IntKind.i64.wrap ((k : Int) + 1) = (k : Int) + 1 := IntWalk.i64_in _ (by omega)
      have b6 : (0 : Int) ≤ (k : Int) + 1 := by omega
      have b7 : (k : Int) + 1 < (f.length : Int) := by omega
      have hA : Below wr.heap.size wr (wr.alloc (.cells #[.int .i64 p, .int .i64 s.2.1, .int .i64 q] 103)) := (Below.refl _ _).alloc (Nat.le_refl _) _
      have hbx := heap_alloc_new wr (.cells #[.int .i64 p, .int .i64 s.2.1, .int .i64 q] 103)
      have s0 := cell_of_row _ wr.heap.size 0 _ _ _ hbx
      have s1 := cell_of_row _ wr.heap.size 1 _ _ _ hbx
      have s2 := cell_of_row _ wr.heap.size 2 _ _ _ hbx
      have g1a := cell_below hA g1 (lt_of_cell g1)
      have hcja := cell_below hA hcj (lt_of_cell hcj)
      have c1 := cell_below hbel HC1.out (lt_of_cell HC1.out)
      have c1a := cell_below hA c1 (lt_of_cell c1)
      have g2a : (wr.alloc (.cells #[.int .i64 p, .int .i64 s.2.1, .int .i64 q] 103)).frozen? ⟨w.heap.size + 1, p, none⟩ = false := (World.frozen?_of_block (a := ⟨w.heap.size + 1, p, none⟩) (hA.block _ (lt_of_cell g1))).trans g2
      have HBL := Lib.hid (hbel.trans (hA.mono hbel.size))
      have HKA := Lib.hid (hkp.trans (Kept.of_below hA (fun b => b = w.heap.size + 1)))
      have HSA := Lib.hid (fun y => row_cell (owns_below hown hA (Nat.le_refl _)) (rowT_len _ _ _ _) hpn hx y)
      clear hA hbx g1 g2 hcj c1 hbel hkp hown
      go_wp2_with fail
      generalize wr.alloc (.cells #[.int .i64 p, .int .i64 s.2.1, .int .i64 q] 103) = W at *
      refine wp_region_still_tail 26 (by kernel_rfl) (by kernel_rfl) ?_
      simp only [List.take_succ_cons, List.take_zero, List.drop_succ_cons, List.drop_zero]
      refine still_cut 25 (fun K25 h25 => ?_)
      simp only [List.take_succ_cons, List.take_zero, List.drop_succ_cons, List.drop_zero] at h25 ⊢
      refine still_cut 24 (fun K24 h24 => ?_)
      simp only [List.take_succ_cons, List.take_zero, List.drop_succ_cons, List.drop_zero] at h24 ⊢
      refine still_cut 23 (fun K23 h23 => ?_)
      simp only [List.take_succ_cons, List.take_zero, List.drop_succ_cons, List.drop_zero] at h23 ⊢
      refine still_cut 22 (fun K22 h22 => ?_)
      simp only [List.take_succ_cons, List.take_zero, List.drop_succ_cons, List.drop_zero] at h22 ⊢
      refine still_cut 21 (fun K21 h21 => ?_)
      simp only [List.take_succ_cons, List.take_zero, List.drop_succ_cons, List.drop_zero] at h21 ⊢
      refine still_cut 20 (fun K20 h20 => ?_)
      simp only [List.take_succ_cons, List.take_zero, List.drop_succ_cons, List.drop_zero] at h20 ⊢
      refine still_cut 19 (fun K19 h19 => ?_)
      simp only [List.take_succ_cons, List.take_zero, List.drop_succ_cons, List.drop_zero] at h19 ⊢
      refine still_cut 18 (fun K18 h18 => ?_)
      simp only [List.take_succ_cons, List.take_zero, List.drop_succ_cons, List.drop_zero] at h18 ⊢
      refine still_cut 17 (fun K17 h17 => ?_)
      simp only [List.take_succ_cons, List.take_zero, List.drop_succ_cons, List.drop_zero] at h17 ⊢
      refine still_cut 16 (fun K16 h16 => ?_)
      simp only [List.take_succ_cons, List.take_zero, List.drop_succ_cons, List.drop_zero] at h16 ⊢
      refine still_cut 15 (fun K15 h15 => ?_)
      simp only [List.take_succ_cons, List.take_zero, List.drop_succ_cons, List.drop_zero] at h15 ⊢
      refine still_cut 14 (fun K14 h14 => ?_)
      simp only [List.take_succ_cons, List.take_zero, List.drop_succ_cons, List.drop_zero] at h14 ⊢
      refine still_cut 13 (fun K13 h13 => ?_)
      simp only [List.take_succ_cons, List.take_zero, List.drop_succ_cons, List.drop_zero] at h13 ⊢
      refine still_cut 12 (fun K12 h12 => ?_)
      simp only [List.take_succ_cons, List.take_zero, List.drop_succ_cons, List.drop_zero] at h12 ⊢
      refine still_cut 11 (fun K11 h11 => ?_)
      simp only [List.take_succ_cons, List.take_zero, List.drop_succ_cons, List.drop_zero] at h11 ⊢
      refine still_cut 10 (fun K10 h10 => ?_)
      simp only [List.take_succ_cons, List.take_zero, List.drop_succ_cons, List.drop_zero] at h10 ⊢
      refine still_cut 9 (fun K9 h9 => ?_)
      simp only [List.take_succ_cons, List.take_zero, List.drop_succ_cons, List.drop_zero] at h9 ⊢
      cases x
      · cases hsl : s.2.1 == lab
        · rw [hsl, Bool.false_and, Bool.false_or] at HSTEP
          obtain ⟨n1, n2, n3⟩ := HSA.out false
          rw [HSTEP.out] at n3
          have HN := Lib.hid n3
          have HB := Lib.hid (HBL.out.drew.setCell (p := ⟨w.heap.size + 1, p, none⟩) (by simp) (.bool false))
          have HK := Lib.hid (HKA.out.drew.setCell (p := ⟨w.heap.size + 1, p, none⟩) rfl (.bool false))
          clear n3
          repeat (first | still_step)
          refine wpStill_nil ?_
          refine h9 _ ?_
          still_step
          refine wpStill_nil ?_
          refine h10 _ ?_
          still_step
          refine wpStill_nil ?_
          refine h11 _ ?_
          still_step
          refine wpStill_nil ?_
          refine h12 _ ?_
          still_step
          refine wpStill_nil ?_
          refine h13 _ ?_
          still_step
          refine wpStill_nil ?_
          refine h14 _ ?_
          still_step
          refine wpStill_nil ?_
          refine h15 _ ?_
          still_step
          refine wpStill_nil ?_
          refine h16 _ ?_
          still_step
          refine wpStill_nil ?_
          refine h17 _ ?_
          still_step
          refine wpStill_nil ?_
          refine h18 _ ?_
          still_step
          refine wpStill_nil ?_
          refine h19 _ ?_
          still_step
          refine wpStill_nil ?_
          refine h20 _ ?_
          still_step
          refine wpStill_nil ?_
          refine h21 _ ?_
          still_step
          refine wpStill_nil ?_
          refine h22 _ ?_
          still_step
          refine wpStill_nil ?_
          refine h23 _ ?_
          still_step
          refine wpStill_nil ?_
          refine h24 _ ?_
          still_step
          refine wpStill_nil ?_
          refine h25 _ ?_
          still_step
          refine wpStill_nil ?_
          change wpList _ _ _ _ _ W.drew
          go_wp2_with fail
          go_roundw
          case rel => exact ⟨j + 1, by omega, by go_num, HN.out, HB.out, HK.out⟩
          case measure => simp [intOf]; omega
        · rw [hsl, Bool.true_and, Bool.false_or] at HSTEP
          cases y
          · obtain ⟨n1, n2, n3⟩ := HSA.out false
            rw [HSTEP.out] at n3
            have HN := Lib.hid n3
            have HB := Lib.hid (HBL.out.drew.setCell (p := ⟨w.heap.size + 1, p, none⟩) (by simp) (.bool false))
            have HK := Lib.hid (HKA.out.drew.setCell (p := ⟨w.heap.size + 1, p, none⟩) rfl (.bool false))
            clear n3
            repeat (first | still_step)
            refine wpStill_nil ?_
            refine h9 _ ?_
            still_step
            refine wpStill_nil ?_
            refine h10 _ ?_
            still_step
            refine wpStill_nil ?_
            refine h11 _ ?_
            still_step
            refine wpStill_nil ?_
            refine h12 _ ?_
            still_step
            refine wpStill_nil ?_
            refine h13 _ ?_
            still_step
            refine wpStill_nil ?_
            refine h14 _ ?_
            still_step
            refine wpStill_nil ?_
            refine h15 _ ?_
            still_step
            refine wpStill_nil ?_
            refine h16 _ ?_
            still_step
            refine wpStill_nil ?_
            refine h17 _ ?_
            still_step
            refine wpStill_nil ?_
            refine h18 _ ?_
            still_step
            refine wpStill_nil ?_
            refine h19 _ ?_
            still_step
            refine wpStill_nil ?_
            refine h20 _ ?_
            still_step
            refine wpStill_nil ?_
            refine h21 _ ?_
            still_step
            refine wpStill_nil ?_
            refine h22 _ ?_
            still_step
            refine wpStill_nil ?_
            refine h23 _ ?_
            still_step
            refine wpStill_nil ?_
            refine h24 _ ?_
            still_step
            refine wpStill_nil ?_
            refine h25 _ ?_
            still_step
            refine wpStill_nil ?_
            change wpList _ _ _ _ _ W.drew
            go_wp2_with fail
            go_roundw
            case rel => exact ⟨j + 1, by omega, by go_num, HN.out, HB.out, HK.out⟩
            case measure => simp [intOf]; omega
          · obtain ⟨n1, n2, n3⟩ := HSA.out true
            rw [HSTEP.out] at n3
            have HN := Lib.hid n3
            have HB := Lib.hid (HBL.out.drew.setCell (p := ⟨w.heap.size + 1, p, none⟩) (by simp) (.bool true))
            have HK := Lib.hid (HKA.out.drew.setCell (p := ⟨w.heap.size + 1, p, none⟩) rfl (.bool true))
            clear n3
            repeat (first | still_step)
            refine wpStill_nil ?_
            refine h9 _ ?_
            still_step
            refine wpStill_nil ?_
            refine h10 _ ?_
            still_step
            refine wpStill_nil ?_
            refine h11 _ ?_
            still_step
            refine wpStill_nil ?_
            refine h12 _ ?_
            still_step
            refine wpStill_nil ?_
            refine h13 _ ?_
            still_step
            refine wpStill_nil ?_
            refine h14 _ ?_
            still_step
            refine wpStill_nil ?_
            refine h15 _ ?_
            still_step
            refine wpStill_nil ?_
            refine h16 _ ?_
            still_step
            refine wpStill_nil ?_
            refine h17 _ ?_
            still_step
            refine wpStill_nil ?_
            refine h18 _ ?_
            still_step
            refine wpStill_nil ?_
            refine h19 _ ?_
            still_step
            refine wpStill_nil ?_
            refine h20 _ ?_
            still_step
            refine wpStill_nil ?_
            refine h21 _ ?_
            still_step
            refine wpStill_nil ?_
            refine h22 _ ?_
            still_step
            refine wpStill_nil ?_
            refine h23 _ ?_
            still_step
            refine wpStill_nil ?_
            refine h24 _ ?_
            still_step
            refine wpStill_nil ?_
            refine h25 _ ?_
            still_step
            refine wpStill_nil ?_
            change wpList _ _ _ _ _ W.drew
            go_wp2_with fail
            go_roundw
            case rel => exact ⟨j + 1, by omega, by go_num, HN.out, HB.out, HK.out⟩
            case measure => simp [intOf]; omega
      · rw [Bool.true_or] at HSTEP
        obtain ⟨n1, n2, n3⟩ := HSA.out true
        rw [HSTEP.out] at n3
        have HN := Lib.hid n3
        have HB := Lib.hid (HBL.out.drew.setCell (p := ⟨w.heap.size + 1, p, none⟩) (by simp) (.bool true))
        have HK := Lib.hid (HKA.out.drew.setCell (p := ⟨w.heap.size + 1, p, none⟩) rfl (.bool true))
        clear n3
        repeat (first | still_step)
        refine wpStill_nil ?_
        refine h9 _ ?_
        still_step
        refine wpStill_nil ?_
        refine h10 _ ?_
        still_step
        refine wpStill_nil ?_
        refine h11 _ ?_
        still_step
        refine wpStill_nil ?_
        refine h12 _ ?_
        still_step
        refine wpStill_nil ?_
        refine h13 _ ?_
        still_step
        refine wpStill_nil ?_
        refine h14 _ ?_
        still_step
        refine wpStill_nil ?_
        refine h15 _ ?_
        still_step
        refine wpStill_nil ?_
        refine h16 _ ?_
        still_step
        refine wpStill_nil ?_
        refine h17 _ ?_
        still_step
        refine wpStill_nil ?_
        refine h18 _ ?_
        still_step
        refine wpStill_nil ?_
        refine h19 _ ?_
        still_step
        refine wpStill_nil ?_
        refine h20 _ ?_
        still_step
        refine wpStill_nil ?_
        refine h21 _ ?_
        still_step
        refine wpStill_nil ?_
        refine h22 _ ?_
        still_step
        refine wpStill_nil ?_
        refine h23 _ ?_
        still_step
        refine wpStill_nil ?_
        refine h24 _ ?_
        still_step
        refine wpStill_nil ?_
        refine h25 _ ?_
        still_step
        refine wpStill_nil ?_
        change wpList _ _ _ _ _ W.drew
        go_wp2_with fail
        go_roundw
        case rel => exact ⟨j + 1, by omega, by go_num, HN.out, HB.out, HK.out⟩
        case measure => simp [intOf]; omega
    · obtain rfl : j = l.steps.length := by omega
      rw [List.take_length] at hown
      have HO := Lib.hid hown
      clear hown
      go_wp2_with fail
      go_ret
      exact ⟨_, rfl, HO.out, hbel⟩

end Go.Proofs.YtdgnhfhaaghoaaaGreatDoor
