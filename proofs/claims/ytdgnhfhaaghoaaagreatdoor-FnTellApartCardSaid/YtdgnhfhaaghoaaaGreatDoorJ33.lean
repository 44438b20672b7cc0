/- The reference's formula for two states: walked. -/
import Derived.Test.YtdgnhfhaaghoaaaGreatDoorProg
import Derived.Test.YtdgnhfhaaghoaaaGreatDoorJ32
import Derived.Test.YtdgnhfhaaghoaaaGreatDoorJ14
set_option linter.unusedSimpArgs false
set_option linter.unusedVariables false
namespace Go.Proofs.YtdgnhfhaaghoaaaGreatDoor
open Go.RowKit

theorem mark_len (a b : List Int) : (markF a b).length ≤ 3 := by
  unfold markF
  split
  · split <;> simp
  · simp

set_option maxRecDepth 100000 in
set_option maxHeartbeats 16000000 in
theorem l11Apart_any (l : Lab) (M : Nat) (hM : IsRounds l M) (hg : goodLab l = true) (hsm : SmallLab l) (w0 : World) (v : Value) (hv : RLab w0 v l) (g cg : Nat) (hrv : RSS w0 (.slice (some ⟨g, 0, none⟩) (M + 1) cg) (rowsTo (partsL l) (M + 1))) :
    ∀ (f s t : Nat), s < l.shows.length → t < l.shows.length → (∃ k, roundOf l s t = some k) → leftA l s t < f → f ≤ 1000 → ∀ w, Below w0.heap.size w0 w →
      Calls Tryz.prog 60 #[v, .slice (some ⟨g, 0, none⟩) (M + 1) cg, .int .i64 s, .int .i64 t] w fun e w' => ∃ r, e = .returned (.tuple #[r, .bool (apart l f s t).isSome]) ∧ ARes (apart l f s t) (4000000 + f) w w' r ∧ Below w.heap.size w w' := by
  have HV0 := Lib.hid (show ∀ W, Below w0.heap.size w0 W → RLab W v l from fun W hb => hv.below hb)
  obtain ⟨sv, tv, rfl, hsv, htv⟩ := hv
  obtain ⟨D, d, rfl, _, _⟩ := id htv
  have HTV0 := Lib.hid (show ∀ W, Below w0.heap.size w0 W → RA3 W (.slice D l.steps.length d) l.steps from fun W hb => htv.below hb)
  have HRV0 := Lib.hid (show ∀ W, Below w0.heap.size w0 W → RSS W (.slice (some ⟨g, 0, none⟩) (M + 1) cg) (rowsTo (partsL l) (M + 1)) from fun W hb => hrv.below hb)
  have HROW := Lib.hid (show ∀ m, m < M + 1 → ∃ Ap dp, ∀ W, Below w0.heap.size w0 W → W.cell? ⟨g, m, none⟩ = some (.slice Ap l.shows.length dp) ∧ Cells W Ap (ints (partsL l m)) from fun m hm => by
    obtain ⟨g', cg', vs, e, hmx, hvl, hcs, hrows⟩ := hrv
    rw [rowsTo_len] at e hvl
    injection e with e1 e2 e3
    subst e3
    subst e1
    obtain ⟨gb, go, eg, hgc⟩ := hcs.at_ (k := m) (by omega)
    cases eg
    obtain ⟨Ap, dp, eu, hmy, hAp⟩ := hrows m _ _ (List.getElem?_eq_getElem (by omega)) (List.getElem?_eq_getElem (by rw [rowsTo_len]; omega))
    rw [rowsTo_at] at eu hAp
    rw [parts_len] at eu
    have hgm := hgc m _ (List.getElem?_eq_getElem (by omega))
    rw [eu, Nat.zero_add] at hgm
    exact ⟨Ap, dp, fun W hW => ⟨cell_below hW hgm (lt_of_cell hgm), hAp.below hW⟩⟩)
  clear hsv htv hrv
  intro f
  induction f with
  | zero => intro s t _ _ _ h; omega
  | succ f ih =>
    intro s t hs ht hk hf hf2 w hw0
    obtain ⟨k, hk⟩ := hk
    obtain ⟨hkM, hidx⟩ := round_kept hM hk
    have hn40 := (goodF_size hg).2
    have hn1 := (goodF_size hg).1
    have hst4 := goodF_many hg
    have hM40 := hM.1
    obtain ⟨W0, hW0⟩ : ∃ W0, W0 = w.alloc (.cells #[sv, .slice D l.steps.length d] 27) := ⟨_, rfl⟩
    have hz0 : Below w.heap.size w W0 := by rw [hW0]; exact (Below.refl _ _).alloc (Nat.le_refl _) _
    have hs0 : W0.heap.size = w.heap.size + 1 := by rw [hW0]; simp
    have bx0 : W0.heap[w.heap.size]? = some (.cells #[sv, .slice D l.steps.length d] 27) := by rw [hW0]; exact heap_alloc_new _ _
    have HX := Lib.hid (show ∀ W, Below W0.heap.size W0 W → W.cell? ⟨w.heap.size, 0, none⟩ = some sv ∧ W.cell? ⟨w.heap.size, 1, none⟩ = some (.slice D l.steps.length d) from fun W hW => box2_cells ((hW.block _ (by omega)).trans bx0))
    have HW00 := Lib.hid (hw0.trans (hz0.mono hw0.size))
    have hs00 := HW00.out.size
    have HRO := Lib.hid (l11Round_any l M g cg s t W0 hM40 hn40 hs ht (HRV0.out W0 HW00.out))
    rw [hidx] at HRO
    have HIH := Lib.hid ih
    have HK := Lib.hid hk
    have HF := Lib.hid hf
    have HG := Lib.hid hg
    have HZ0 := Lib.hid hz0
    have HSM := Lib.hid hsm
    clear hz0 bx0 hidx ih hk hf hw0 hM
    go_enter Tryz.func60, Tryz.ntmps60
    go_wp2_with fail
    rw [← hW0]
    clear hW0
    (with_reducible refine HRO.out.mono ?_)
    rintro e w1 ⟨rfl, hb1⟩
    have HB1 := Lib.hid (show Below W0.heap.size W0 w1 from hb1)
    have hs1 := hb1.size
    obtain ⟨x0, x1⟩ := HX.out w1 hb1
    clear hb1
    cases k with
    | zero =>
      have hne : l.shows.getD s [] ≠ l.shows.getD t [] := fun e => by
        refine (round_some HK.out).1 ((parts_iff l 0 hs ht).2 ?_)
        show showB l s t = true
        unfold showB
        rw [e]
        simp
      obtain ⟨m, hm, _, _⟩ := diff_some ⟨(goodF_row HG.out hs).1, (goodF_row HG.out hs).2.1⟩ ⟨(goodF_row HG.out ht).1, (goodF_row HG.out ht).2.1⟩ hne
      have HMA := Lib.hid (l11Mark_any _ l s t m w1 (HV0.out w1 (HW00.out.trans (HB1.out.mono hs00))) hn40 hs ht (fun xs hx => (goodF_rows HG.out xs hx).2) hm)
      have HAP := Lib.hid (show apart l (f + 1) s t = some (markF (l.shows.getD s []) (l.shows.getD t [])) from by rw [apart, HK.out])
      clear hne hm
      go_wp2_with fail
      (with_reducible refine HMA.out.mono ?_)
      rintro e w2 ⟨r, rfl, hr, hb2⟩
      have HO := Lib.hid (owns_mono hr (show w.heap.size ≤ w1.heap.size by omega))
      have HB2 := Lib.hid (HZ0.out.trans ((HB1.out.trans (hb2.mono hs1)).mono (by omega)))
      clear hr hb2
      go_wp2_with fail
      go_ret2
      exact ⟨_, by rw [HAP.out]; rfl, ⟨_, HO.out, by have := mark_len (l.shows.getD s []) (l.shows.getD t []); omega, fun g hg => by rw [HAP.out] at hg; injection hg⟩, HB2.out⟩
    | succ m =>
      obtain ⟨Ap, dp, hrow⟩ := HROW.out m (by omega)
      have HPM := Lib.hid hrow
      have em : (((m : Int) + 1) - 1) = (m : Int) := by omega
      have em0 : (((m : Int) + 1) == 0) = false := by rw [beq_eq_false_iff_ne]; omega
      have r0 : (0 : Int) ≤ (m : Int) := by omega
      have hwm : IntKind.i64.wrap (m : Int) = (m : Int) := by simp [IntKind.wrap, IntKind.bits, IntKind.signed]; omega
      have r1 : (m : Int) < (M : Int) + 1 := by omega
      have HLO := Lib.hid (show ∀ W, Below w0.heap.size w0 W → Calls Tryz.prog 136 #[.agg #[sv, .slice D l.steps.length d], .slice Ap l.shows.length dp, .int .i64 s, .int .i64 t] W (fun e w' => e = .returned (.int .i64 (idxR l.steps.length (fun q => lonelyB l.steps (partsL l m) s t (l.steps.getD q (0, 0, 0))))) ∧ Below W.heap.size W w') from fun W hW =>
        l11Lonely_any _ l Ap dp (partsL l m) s t W HSM.out (by omega) (goodF_steps HG.out) (parts_len l m) hn1 hn40 (HV0.out W hW) (HPM.out W hW).2)
      have HLI := Lib.hid (lonely_idx l.steps (partsL l m) s t)
      generalize idxR l.steps.length (fun q => lonelyB l.steps (partsL l m) s t (l.steps.getD q (0, 0, 0))) = ix at *
      have HBW1 := Lib.hid (HW00.out.trans (HB1.out.mono hs00))
      have hsw1 := HBW1.out.size
      clear hrow
      go_wp2_with fail
      refine wp_region_inv (by kernel_rfl) (fun L act W => act = ⟨#[Value.agg #[sv, Value.slice D l.steps.length d], Value.slice (some ⟨g, 0, none⟩) (M + 1) cg, Value.int IntKind.i64 (s : Int), Value.int IntKind.i64 (t : Int), Value.pointer (some ⟨w.heap.size, 0, none⟩), undef, undef, undef, Value.slice none 0 0, Value.bool false, Value.int IntKind.i64 ((m : Int) + 1), bsel (L 9) (.int .i64 ix) (undef), undef, undef, undef, undef, undef, undef, undef, undef, undef, Value.slice (some ⟨g, 0, none⟩) (M + 1) cg, Value.int IntKind.i64 (s : Int), Value.int IntKind.i64 (t : Int), Value.int IntKind.i64 ((m : Int) + 1), Value.int IntKind.i64 ((m : Int) + 1), Value.bool false, undef, undef, undef, undef, bsel (L 0) (.agg #[sv, .slice D l.steps.length d]) (undef), bsel (L 1) (.slice (some ⟨g, 0, none⟩) (M + 1) cg) (undef), bsel (L 2) (.int .i64 ((m : Int) + 1)) (undef), bsel (L 3) (.int .i64 (m : Int)) (undef), bsel (L 4) (.pointer (some ⟨g, m, none⟩)) (undef), bsel (L 5) (.slice Ap l.shows.length dp) (undef), bsel (L 6) (.int .i64 (s : Int)) (undef), bsel (L 7) (.int .i64 (t : Int)) (undef), bsel (L 8) (.int .i64 ix) (undef), undef, undef, undef, undef, undef, undef, undef, undef, undef, undef, undef, undef, undef, undef, undef, undef, undef, undef, undef, undef, undef, undef, undef, undef, undef, undef, undef, undef, undef, undef, undef, undef, undef, undef, undef, undef, undef, undef, undef, undef, undef, undef, undef, undef, undef, undef, undef, undef, undef, undef, undef, undef, undef, undef, undef, undef, undef, undef, undef, undef, undef, undef, undef, undef, undef], []⟩ ∧ Below w1.heap.size w1 W) ?h0 ?step ?fin
      case h0 => exact ⟨rfl, (Below.refl _ _).drew⟩
      case step =>
        intro L act W q oo hJ hL ho hd K3 hK3
        obtain ⟨rfl, hF⟩ := hJ
        match q, ho with
        | 0, ho =>
          simp only [List.getElem?_toArray, List.getElem?_cons_zero, List.getElem?_cons_succ, Option.some.injEq] at ho
          subst ho
          simp [Region.binds] at hd
          obtain ⟨x0, x1⟩ := HX.out W (HB1.out.trans (hF.mono hs1))
          try simp only [hd, bsel_t]
          have HF := Lib.hid hF
          clear hF
          go_simp
          exact hK3 _ _ ⟨by simp [upd, bsel], HF.out⟩
        | 1, ho =>
          simp only [List.getElem?_toArray, List.getElem?_cons_zero, List.getElem?_cons_succ, Option.some.injEq] at ho
          subst ho
          simp [Region.binds] at hd
          try simp only [hd, bsel_t]
          have HF := Lib.hid hF
          clear hF
          go_simp
          exact hK3 _ _ ⟨by simp [upd, bsel], HF.out⟩
        | 2, ho =>
          simp only [List.getElem?_toArray, List.getElem?_cons_zero, List.getElem?_cons_succ, Option.some.injEq] at ho
          subst ho
          simp [Region.binds] at hd
          try simp only [hd, bsel_t]
          have HF := Lib.hid hF
          clear hF
          go_simp
          exact hK3 _ _ ⟨by simp [upd, bsel], HF.out⟩
        | 3, ho =>
          simp only [List.getElem?_toArray, List.getElem?_cons_zero, List.getElem?_cons_succ, Option.some.injEq] at ho
          subst ho
          simp [Region.binds] at hd
          simp only [hd, bsel_t]
          have HF := Lib.hid hF
          clear hF
          go_simp
          exact hK3 _ _ ⟨by simp [upd, bsel, hd, hwm], HF.out⟩
        | 4, ho =>
          simp only [List.getElem?_toArray, List.getElem?_cons_zero, List.getElem?_cons_succ, Option.some.injEq] at ho
          subst ho
          simp [Region.binds] at hd
          try simp only [hd, bsel_t]
          have HF := Lib.hid hF
          clear hF
          go_simp
          exact hK3 _ _ ⟨by simp [upd, bsel, hd], HF.out⟩
        | 5, ho =>
          simp only [List.getElem?_toArray, List.getElem?_cons_zero, List.getElem?_cons_succ, Option.some.injEq] at ho
          subst ho
          simp [Region.binds] at hd
          obtain ⟨pm, _⟩ := HPM.out W (HBW1.out.trans (hF.mono hsw1))
          try simp only [hd, bsel_t]
          have HF := Lib.hid hF
          clear hF
          go_simp
          exact hK3 _ _ ⟨by simp [upd, bsel, hd], HF.out⟩
        | 6, ho =>
          simp only [List.getElem?_toArray, List.getElem?_cons_zero, List.getElem?_cons_succ, Option.some.injEq] at ho
          subst ho
          simp [Region.binds] at hd
          try simp only [hd, bsel_t]
          have HF := Lib.hid hF
          clear hF
          go_simp
          exact hK3 _ _ ⟨by simp [upd, bsel], HF.out⟩
        | 7, ho =>
          simp only [List.getElem?_toArray, List.getElem?_cons_zero, List.getElem?_cons_succ, Option.some.injEq] at ho
          subst ho
          simp [Region.binds] at hd
          try simp only [hd, bsel_t]
          have HF := Lib.hid hF
          clear hF
          go_simp
          exact hK3 _ _ ⟨by simp [upd, bsel], HF.out⟩
        | 8, ho =>
          simp only [List.getElem?_toArray, List.getElem?_cons_zero, List.getElem?_cons_succ, Option.some.injEq] at ho
          subst ho
          simp [Region.binds] at hd
          simp only [hd, bsel_t]
          have HF := Lib.hid hF
          clear hF
          go_simp
          go_at_call 136
          (with_reducible refine (HLO.out W (HBW1.out.trans (HF.out.mono hsw1))).mono ?_)
          rintro e W' ⟨rfl, hb⟩
          have HF := Lib.hid (HF.out.trans (hb.mono HF.out.size))
          clear hb
          go_simp
          exact hK3 _ _ ⟨by simp [upd, bsel, hd], HF.out⟩
        | 9, ho =>
          simp only [List.getElem?_toArray, List.getElem?_cons_zero, List.getElem?_cons_succ, Option.some.injEq] at ho
          subst ho
          simp [Region.binds] at hd
          try simp only [hd, bsel_t]
          have HF := Lib.hid hF
          clear hF
          go_simp
          exact hK3 _ _ ⟨by simp [upd, bsel, hd], HF.out⟩
        | q + 10, ho => simp at ho
      case fin =>
        intro L act W hJ hfin
        obtain ⟨rfl, hF⟩ := hJ
        have l0 : L 0 = true := by
          cases e : L 0
          · have x := hfin 0 _ rfl e
            simp [Region.binds] at x
          · rfl
        have l1 : L 1 = true := by
          cases e : L 1
          · have x := hfin 1 _ rfl e
            simp [Region.binds, l0] at x
          · rfl
        have l2 : L 2 = true := by
          cases e : L 2
          · have x := hfin 2 _ rfl e
            simp [Region.binds, l0, l1] at x
          · rfl
        have l3 : L 3 = true := by
          cases e : L 3
          · have x := hfin 3 _ rfl e
            simp [Region.binds, l0, l1, l2] at x
          · rfl
        have l4 : L 4 = true := by
          cases e : L 4
          · have x := hfin 4 _ rfl e
            simp [Region.binds, l0, l1, l2, l3] at x
          · rfl
        have l5 : L 5 = true := by
          cases e : L 5
          · have x := hfin 5 _ rfl e
            simp [Region.binds, l0, l1, l2, l3, l4] at x
          · rfl
        have l6 : L 6 = true := by
          cases e : L 6
          · have x := hfin 6 _ rfl e
            simp [Region.binds, l0, l1, l2, l3, l4, l5] at x
          · rfl
        have l7 : L 7 = true := by
          cases e : L 7
          · have x := hfin 7 _ rfl e
            simp [Region.binds, l0, l1, l2, l3, l4, l5, l6] at x
          · rfl
        have l8 : L 8 = true := by
          cases e : L 8
          · have x := hfin 8 _ rfl e
            simp [Region.binds, l0, l1, l2, l3, l4, l5, l6, l7] at x
          · rfl
        have l9 : L 9 = true := by
          cases e : L 9
          · have x := hfin 9 _ rfl e
            simp [Region.binds, l0, l1, l2, l3, l4, l5, l6, l7, l8] at x
          · rfl
        simp only [l0, l1, l2, l3, l4, l5, l6, l7, l8, l9, bsel_t]
        have HB2 := Lib.hid (show Below w1.heap.size w1 W from hF)
        have hs2 := HB2.out.size
        clear hF hfin l0 l1 l2 l3 l4 l5 l6 l7 l8 l9
        obtain ⟨x0, x1⟩ := HX.out W (HB1.out.trans (HB2.out.mono hs1))
        rcases HLI.out with ⟨hnone, rfl⟩ | ⟨q, hq, hsome, rfl⟩
        · have hflip := left_flip hs ht HK.out hnone
          have HAP := Lib.hid (show apart l (f + 1) s t = (apart l f t s).bind fun g => chkF (2 :: g) from by rw [apart, HK.out]; dsimp only; rw [hnone])
          have HC := Lib.hid (HIH.out t s ht hs ⟨m + 1, by rw [← round_symm]; exact HK.out⟩ (by have := HF.out; omega) (by omega) W (HBW1.out.trans (HB2.out.mono hsw1)))
          clear hnone hflip
          have HBWW := Lib.hid (show Below w.heap.size w W from HZ0.out.trans ((HB1.out.trans (HB2.out.mono hs1)).mono (by omega)))
          have hsww := HBWW.out.size
          cases hap : apart l f t s with
          | none =>
            rw [hap] at HC HAP
            have HAP := Lib.hid (show apart l (f + 1) s t = none from HAP.out)
            clear hap
            go_wp2_with fail
            (with_reducible refine HC.out.mono ?_)
            rintro e w3 ⟨r, rfl, ⟨xs, ho, hxl, hxs⟩, hb3⟩
            have HO3 := Lib.hid (owns_below ho ((Below.refl _ w3).alloc (Nat.le_refl _) (.cells #[.int .i64 2] 3)) (Nat.le_refl _))
            have HO2 := Lib.hid (ownsRow_lit (n := 1) (w := w3.alloc (.cells #[.int .i64 2] 3)) (xs := [.int .i64 2]) (heap_alloc_new _ _) rfl (by unfold maxLen; omega))
            have HB3 := Lib.hid ((HBWW.out.trans (hb3.mono hsww)).alloc (HBWW.out.trans (hb3.mono hsww)).size (.cells #[.int .i64 2] 3))
            have hs3 := HB3.out.size
            have hs3' := (HBWW.out.trans (hb3.mono hsww)).size
            obtain ⟨Af, cf, rfl, _⟩ := owns_form ho
            clear ho hxs hb3
            go_wp2_with (at_builtin; refine wpList_append_row rfl _ _ rfl w3.heap.size W.heap.size _ _ _ rfl HO2.out _ _ _ rfl HO3.out (ints_one _) (by omega) (by simp) ?_; intro v6 w6 ho6 hk6)
            have HB6 := Lib.hid (below_kept HB3.out hk6 (fun q hq => by have := (HO2.out.lt q hq).1; omega) hs3)
            have HO6 := Lib.hid (show w6.ownsRow w.heap.size 3 1 v6 (2 :: xs).length (ints (2 :: xs)) from by
              rw [show (2 :: xs).length = 1 + xs.length by rw [List.length_cons]; omega, show ints (2 :: xs) = [.int .i64 2] ++ ints xs by simp [ints]]
              exact owns_mono ho6 hs3')
            clear ho6 hk6
            go_wp2_with fail
            go_ret2
            exact ⟨_, by rw [HAP.out]; rfl, ⟨2 :: xs, HO6.out, by rw [List.length_cons]; omega, fun g hg => by rw [HAP.out] at hg; cases hg⟩, HB6.out⟩
          | some g0 =>
            have hgl := apart_len hap
            rw [hap] at HC HAP
            have HAP := Lib.hid (show apart l (f + 1) s t = chkF (2 :: g0) from HAP.out)
            clear hap
            go_wp2_with fail
            (with_reducible refine HC.out.mono ?_)
            rintro e w3 ⟨r, rfl, ⟨xs, ho, hxl, hxs⟩, hb3⟩
            obtain rfl := hxs g0 rfl
            have HO3 := Lib.hid (owns_below ho ((Below.refl _ w3).alloc (Nat.le_refl _) (.cells #[.int .i64 2] 3)) (Nat.le_refl _))
            have HO2 := Lib.hid (ownsRow_lit (n := 1) (w := w3.alloc (.cells #[.int .i64 2] 3)) (xs := [.int .i64 2]) (heap_alloc_new _ _) rfl (by unfold maxLen; omega))
            have HB3 := Lib.hid ((HBWW.out.trans (hb3.mono hsww)).alloc (HBWW.out.trans (hb3.mono hsww)).size (.cells #[.int .i64 2] 3))
            have hs3 := HB3.out.size
            have hs3' := (HBWW.out.trans (hb3.mono hsww)).size
            obtain ⟨Af, cf, rfl, _⟩ := owns_form ho
            clear ho hxs hb3
            cases hlen : decide ((xs.length : Int) < 200) with
            | false =>
              have hl2 : ¬ xs.length < 200 := by have := of_decide_eq_false hlen; omega
              have HFZ := Lib.hid (show chkF (2 :: xs) = none from by unfold chkF; rw [if_neg (by rw [List.length_cons]; omega)])
              go_wp2_with (at_builtin; refine wpList_append_row rfl _ _ rfl w3.heap.size W.heap.size _ _ _ rfl HO2.out _ _ _ rfl HO3.out (ints_one _) (by omega) (by simp) ?_; intro v6 w6 ho6 hk6)
              have HB6 := Lib.hid (below_kept HB3.out hk6 (fun q hq => by have := (HO2.out.lt q hq).1; omega) hs3)
              have HO6 := Lib.hid (show w6.ownsRow w.heap.size 3 1 v6 (2 :: xs).length (ints (2 :: xs)) from by
                rw [show (2 :: xs).length = 1 + xs.length by rw [List.length_cons]; omega, show ints (2 :: xs) = [.int .i64 2] ++ ints xs by simp [ints]]
                exact owns_mono ho6 hs3')
              clear ho6 hk6
              go_wp2_with fail
              go_ret2
              exact ⟨_, by rw [HAP.out, HFZ.out]; rfl, ⟨2 :: xs, HO6.out, by rw [List.length_cons]; omega, fun g hg => by rw [HAP.out, HFZ.out] at hg; cases hg⟩, HB6.out⟩
            | true =>
              have hl2 : xs.length < 200 := by have := of_decide_eq_true hlen; omega
              have HFZ := Lib.hid (show chkF (2 :: xs) = some (2 :: xs) from by unfold chkF; rw [if_pos (by rw [List.length_cons]; omega)])
              go_wp2_with (at_builtin; refine wpList_append_row rfl _ _ rfl w3.heap.size W.heap.size _ _ _ rfl HO2.out _ _ _ rfl HO3.out (ints_one _) (by omega) (by simp) ?_; intro v6 w6 ho6 hk6)
              have HB6 := Lib.hid (below_kept HB3.out hk6 (fun q hq => by have := (HO2.out.lt q hq).1; omega) hs3)
              have HO6 := Lib.hid (show w6.ownsRow w.heap.size 3 1 v6 (2 :: xs).length (ints (2 :: xs)) from by
                rw [show (2 :: xs).length = 1 + xs.length by rw [List.length_cons]; omega, show ints (2 :: xs) = [.int .i64 2] ++ ints xs by simp [ints]]
                exact owns_mono ho6 hs3')
              clear ho6 hk6
              go_wp2_with fail
              go_ret2
              exact ⟨_, by rw [HAP.out, HFZ.out]; rfl, ⟨2 :: xs, HO6.out, by rw [List.length_cons]; omega, fun g hg => by rw [HAP.out, HFZ.out] at hg; injection hg⟩, HB6.out⟩
        · have HBWW := Lib.hid (show Below w.heap.size w W from HZ0.out.trans ((HB1.out.trans (HB2.out.mono hs1)).mono (by omega)))
          have HB0W := Lib.hid (HBW1.out.trans (HB2.out.mono hsw1))
          have hsww := HBWW.out.size
          have hs0w := HB0W.out.size
          obtain ⟨bD, oD, c', e, h0, h1, h2⟩ := (HTV0.out W HB0W.out).at_ (List.getElem?_eq_getElem hq)
          cases e
          obtain ⟨un, zn, hu, hz2, hun, hzn⟩ := goodF_steps HG.out _ (List.getElem_mem hq)
          rw [hz2] at h2
          have HAP := Lib.hid (show apart l (f + 1) s t = (mapO (fun o => apart l f zn o.toNat) (nextA l.steps (t : Int) l.steps[q].2.1)).bind (fun r => chkF (4 :: l.steps[q].2.1 :: allS r)) from by
            rw [apart, HK.out]
            dsimp only
            rw [hsome]
            dsimp only
            rw [← spec_can, hz2, Int.toNat_natCast])
          have hin : ∀ y ∈ nextA l.steps (t : Int) l.steps[q].2.1, ∃ i : Nat, y = (i : Int) ∧ i < l.shows.length ∧ leftA l zn i < f ∧ ∃ k, roundOf l zn i = some k := fun y hy => by
            have hy' := hy
            unfold nextA at hy
            rw [List.mem_map] at hy
            obtain ⟨u, hu, rfl⟩ := hy
            obtain ⟨_, i, _, h2, _, h4⟩ := goodF_steps HG.out u (List.mem_filter.1 hu).1
            have h5 := left_step HK.out hsome hy' hz2 h2
            exact ⟨i, h2, h4, by have := h5.1; have := HF.out; omega, h5.2⟩
          have HIN := Lib.hid hin
          have hnl : (nextA l.steps (t : Int) l.steps[q].2.1).length ≤ l.steps.length := nextA_all _ _ _
          have r2 : (0 : Int) ≤ (q : Int) := by omega
          have r3 : (q : Int) < (l.steps.length : Int) := by omega
          obtain ⟨W4, hW4⟩ : ∃ W4, W4 = W.alloc (.cells #[.int .i64 l.steps[q].1, .int .i64 l.steps[q].2.1, .int .i64 (zn : Int)] 103) := ⟨_, rfl⟩
          have hb4 : Below W.heap.size W W4 := by rw [hW4]; exact (Below.refl _ _).alloc (Nat.le_refl _) _
          have bx4 : W4.heap[W.heap.size]? = some (.cells #[.int .i64 l.steps[q].1, .int .i64 l.steps[q].2.1, .int .i64 (zn : Int)] 103) := by rw [hW4]; exact heap_alloc_new _ _
          have hlt4 : W.heap.size < W4.heap.size := by rw [hW4]; simp
          have HBX := Lib.hid (show ∀ V, Below W4.heap.size W4 V → V.cell? ⟨W.heap.size, 0, none⟩ = some (.int .i64 l.steps[q].1) ∧ V.cell? ⟨W.heap.size, 1, none⟩ = some (.int .i64 l.steps[q].2.1) ∧ V.cell? ⟨W.heap.size, 2, none⟩ = some (.int .i64 (zn : Int)) from fun V hV => by
            have := (hV.block _ hlt4).trans bx4
            exact ⟨cell_of_row _ _ _ _ _ _ this, cell_of_row _ _ _ _ _ _ this, cell_of_row _ _ _ _ _ _ this⟩)
          have HB4 := Lib.hid (HB0W.out.trans (hb4.mono hs0w))
          have HBX4 := Lib.hid ((HB1.out.trans (HB2.out.mono hs1)).trans (hb4.mono (HB1.out.trans (HB2.out.mono hs1)).size))
          have HBW4 := Lib.hid (HBWW.out.trans (hb4.mono hsww))
          obtain ⟨g0, g1, g2⟩ := HBX.out W4 (Below.refl _ _)
          obtain ⟨y0, y1⟩ := HX.out W4 HBX4.out
          have HNE := Lib.hid (l11Next_any (.agg #[sv, .slice (some ⟨bD, oD, none⟩) l.steps.length d]) l (t : Int) l.steps[q].2.1 W4 HSM.out (HV0.out W4 HB4.out))
          rw [hW4] at g0 g1 g2 y0 y1
          have HW4 := Lib.hid hW4
          clear hsome hu hun hin hb4 bx4 hlt4 hW4
          generalize nextA l.steps (t : Int) l.steps[q].2.1 = os at *
          generalize l.steps[q] = x at *
          go_wp2_with fail
          rw [← HW4.out]
          (with_reducible refine HNE.out.mono ?_)
          rintro e w5 ⟨r5, rfl, hr5, hb5⟩
          obtain ⟨A5, c5, rfl, hr5⟩ := owns_form hr5
          have HR5 := Lib.hid hr5
          have HB45 := Lib.hid hb5
          have HIL := Lib.hid (show LRows (w5.alloc (.cells #[] 30)) w5.heap.size (.slice (some ⟨w5.heap.size, 0, none⟩) 0 0) [] from LRows.nil (made_row _ _))
          have HB50 := Lib.hid ((Below.refl w5.heap.size w5).alloc (Nat.le_refl _) (.cells #[] 30))
          have hs45 := hb5.size
          clear hr5 hb5 g0 g1 g2 y0 y1 h0 h1 h2
          go_wp2_with fail
          go_loopw [16, 17] (fun u i wr => ∃ (k : Nat) (rows : List (List Int)), k ≤ os.length ∧ i = .int .i64 k ∧ mapO (fun o => apart l f zn o.toNat) (os.take k) = some rows ∧ LRows wr w5.heap.size u rows ∧ rows.length = k ∧ Below w5.heap.size w5 wr)
            (fun _ i _ => os.length - (intOf i).toNat)
          case atStart => exact ⟨0, [], Nat.zero_le _, rfl, rfl, HIL.out, rfl, HB50.out⟩
          case round =>
            clear HIL HB50
            obtain ⟨k, rows, hk, rfl, hmp, hrows, hrl, hbel⟩ := hrel
            have hsr := hbel.size
            have hb4r := HB45.out.trans (hbel.mono HB45.out.size)
            have HB4R := Lib.hid hb4r
            have hs4 := HB4.out.size
            have hsbx := HBX4.out.size
            obtain ⟨g0, g1, g2⟩ := HBX.out wr hb4r
            obtain ⟨y0, y1⟩ := HX.out wr (HBX4.out.trans (hb4r.mono hsbx))
            have HMP := Lib.hid hmp
            have HROWS := Lib.hid hrows
            have HBEL := Lib.hid hbel
            have HRL := Lib.hid hrl
            clear hmp hrows hbel hb4r hrl
            by_cases hlt : k < os.length
            · have hck := (Cells.of_owns (owns_below HR5.out HBEL.out (Nat.le_refl _))).int hlt
              obtain ⟨b5, o5, rfl, hck⟩ := hck
              obtain ⟨i, hi, hil, hleft, hri⟩ := HIN.out _ (getD_mem hlt)
              have HCK := Lib.hid (show ∀ V, Below wr.heap.size wr V → V.cell? ⟨b5, o5 + k, none⟩ = some (.int .i64 (i : Int)) from fun V hV => by rw [← hi]; exact cell_below hV (hck k hlt) (lt_of_cell (hck k hlt)))
              have r4 : (0 : Int) ≤ (k : Int) := by omega
              have r5 : (k : Int) < (os.length : Int) := by omega
              obtain ⟨o, ho⟩ : ∃ o, o = apart l f zn i := ⟨_, rfl⟩
              have HO := Lib.hid (show apart l f zn (os.getD k 0).toNat = o from by rw [ho, hi, Int.toNat_natCast])
              have HLN := Lib.hid (show ∀ a, o = some a → a.length ≤ 200 from fun a h => by rw [ho] at h; exact apart_len h)
              have HC := Lib.hid (show ∀ V, Below W4.heap.size W4 V → Calls Tryz.prog 60 #[.agg #[sv, .slice (some ⟨bD, oD, none⟩) l.steps.length d], .slice (some ⟨g, 0, none⟩) (M + 1) cg, .int .i64 zn, .int .i64 i] V (fun e w' => ∃ r, e = .returned (.tuple #[r, .bool o.isSome]) ∧ ARes o (4000000 + f) V w' r ∧ Below V.heap.size V w') from fun V hV => by
                rw [ho]
                exact HIH.out zn i hzn hil hri hleft (by omega) V (HB4.out.trans (hV.mono hs4)))
              clear hck hi hri hleft ho
              go_wp2_with fail
              refine wp_region_inv (by kernel_rfl) (fun L act V => ∃ (r : Value), act = ⟨#[Value.agg #[sv, Value.slice (some ⟨bD, oD, none⟩) l.steps.length d], Value.slice (some ⟨g, 0, none⟩) (M + 1) cg, Value.int IntKind.i64 (s : Int), Value.int IntKind.i64 (t : Int), Value.pointer (some ⟨w.heap.size, 0, none⟩), undef, undef, undef, u8, u9, Value.int IntKind.i64 ((m : Int) + 1), Value.int IntKind.i64 (q : Int), undef, undef, Value.pointer (some ⟨W.heap.size, 0, none⟩), Value.slice (some ⟨b5, o5, none⟩) os.length c5, u16, Value.int IntKind.i64 (k : Int), bsel (L 12) (r) (u18), bsel (L 13) (.bool o.isSome) (u19), undef, Value.slice (some ⟨g, 0, none⟩) (M + 1) cg, Value.int IntKind.i64 (s : Int), Value.int IntKind.i64 (t : Int), Value.int IntKind.i64 ((m : Int) + 1), Value.int IntKind.i64 ((m : Int) + 1), Value.bool false, undef, undef, undef, undef, Value.agg #[sv, Value.slice (some ⟨bD, oD, none⟩) l.steps.length d], Value.slice (some ⟨g, 0, none⟩) (M + 1) cg, Value.int IntKind.i64 ((m : Int) + 1), Value.int IntKind.i64 (m : Int), Value.pointer (some ⟨g, m, none⟩), Value.slice Ap l.shows.length dp, Value.int IntKind.i64 (s : Int), Value.int IntKind.i64 (t : Int), Value.int IntKind.i64 (q : Int), Value.int IntKind.i64 (q : Int), Value.bool (decide ((q : Int) < 0)), undef, undef, undef, undef, undef, undef, undef, undef, undef, undef, undef, undef, undef, undef, undef, undef, undef, Value.pointer (some ⟨w.heap.size, 1, none⟩), Value.slice (some ⟨bD, oD, none⟩) l.steps.length d, Value.int IntKind.i64 (q : Int), Value.pointer (some ⟨bD, oD + q * 3, none⟩), Value.agg #[Value.int IntKind.i64 x.fst, Value.int IntKind.i64 x.snd.fst, Value.int IntKind.i64 (zn : Int)], Value.agg #[sv, Value.slice (some ⟨bD, oD, none⟩) l.steps.length d], Value.int IntKind.i64 (t : Int), Value.pointer (some ⟨W.heap.size, 1, none⟩), Value.int IntKind.i64 x.snd.fst, Value.slice (some ⟨b5, o5, none⟩) os.length c5, Value.slice (some ⟨w5.heap.size, 0, none⟩) 0 0, Value.int IntKind.i64 (k : Int), Value.slice (some ⟨b5, o5, none⟩) os.length c5, Value.int IntKind.i64 (os.length : Int), Value.bool true, u74, u75, bsel (L 9) (.tuple #[r, .bool o.isSome]) (u76), bsel (L 0) (.agg #[sv, .slice (some ⟨bD, oD, none⟩) l.steps.length d]) (u77), bsel (L 1) (.slice (some ⟨g, 0, none⟩) (M + 1) cg) (u78), bsel (L 2) (.pointer (some ⟨W.heap.size, 2, none⟩)) (u79), bsel (L 3) (.int .i64 (zn : Int)) (u80), bsel (L 4) (.slice (some ⟨b5, o5, none⟩) os.length c5) (u81), bsel (L 5) (.int .i64 (k : Int)) (u82), bsel (L 6) (.pointer (some ⟨b5, o5 + k, none⟩)) (u83), bsel (L 7) (.int .i64 (i : Int)) (u84), bsel (L 8) (.tuple #[r, .bool o.isSome]) (u85), bsel (L 10) (r) (u86), bsel (L 11) (.bool o.isSome) (u87), u88, u89, u90, u91, u92, u93, u94, undef, undef, undef, undef, undef, undef, undef, undef, undef, undef], []⟩ ∧ (L 9 = true → L 8 = true) ∧ (L 10 = true → L 9 = true) ∧ (L 12 = true → L 10 = true) ∧ CF wr o (L 8) r V) ?h0 ?step ?fin
              case h0 => exact ⟨.bool false, rfl, fun h => absurd h Bool.false_ne_true, fun h => absurd h Bool.false_ne_true, fun h => absurd h Bool.false_ne_true, CF.start _ _ _⟩
              case step =>
                intro L act V q oo hJ hL ho hd K3 hK3
                obtain ⟨r, rfl, hI1, hI2, hI3, hF⟩ := hJ
                match q, ho with
                | 0, ho =>
                  simp only [List.getElem?_toArray, List.getElem?_cons_zero, List.getElem?_cons_succ, Option.some.injEq] at ho
                  subst ho
                  simp [Region.binds] at hd
                  have hbV := HB4R.out.trans (hF.z.mono HB4R.out.size)
                  obtain ⟨x0, x1⟩ := HX.out V (HBX4.out.trans (hbV.mono hsbx))
                  try simp only [hd, bsel_t]
                  have HF := Lib.hid hF
                  clear hF
                  go_simp
                  exact hK3 _ _ ⟨r, by simp [upd, bsel], by simpa [upd] using hI1, by simpa [upd] using hI2, by simpa [upd] using hI3, HF.out⟩
                | 1, ho =>
                  simp only [List.getElem?_toArray, List.getElem?_cons_zero, List.getElem?_cons_succ, Option.some.injEq] at ho
                  subst ho
                  simp [Region.binds] at hd
                  try simp only [hd, bsel_t]
                  have HF := Lib.hid hF
                  clear hF
                  go_simp
                  exact hK3 _ _ ⟨r, by simp [upd, bsel], by simpa [upd] using hI1, by simpa [upd] using hI2, by simpa [upd] using hI3, HF.out⟩
                | 2, ho =>
                  simp only [List.getElem?_toArray, List.getElem?_cons_zero, List.getElem?_cons_succ, Option.some.injEq] at ho
                  subst ho
                  simp [Region.binds] at hd
                  try simp only [hd, bsel_t]
                  have HF := Lib.hid hF
                  clear hF
                  go_simp
                  exact hK3 _ _ ⟨r, by simp [upd, bsel], by simpa [upd] using hI1, by simpa [upd] using hI2, by simpa [upd] using hI3, HF.out⟩
                | 3, ho =>
                  simp only [List.getElem?_toArray, List.getElem?_cons_zero, List.getElem?_cons_succ, Option.some.injEq] at ho
                  subst ho
                  simp [Region.binds] at hd
                  have hbV := HB4R.out.trans (hF.z.mono HB4R.out.size)
                  obtain ⟨_, _, z2⟩ := HBX.out V hbV
                  try simp only [hd, bsel_t]
                  have HF := Lib.hid hF
                  clear hF
                  go_simp
                  exact hK3 _ _ ⟨r, by simp [upd, bsel, hd], by simpa [upd] using hI1, by simpa [upd] using hI2, by simpa [upd] using hI3, HF.out⟩
                | 4, ho =>
                  simp only [List.getElem?_toArray, List.getElem?_cons_zero, List.getElem?_cons_succ, Option.some.injEq] at ho
                  subst ho
                  simp [Region.binds] at hd
                  try simp only [hd, bsel_t]
                  have HF := Lib.hid hF
                  clear hF
                  go_simp
                  exact hK3 _ _ ⟨r, by simp [upd, bsel], by simpa [upd] using hI1, by simpa [upd] using hI2, by simpa [upd] using hI3, HF.out⟩
                | 5, ho =>
                  simp only [List.getElem?_toArray, List.getElem?_cons_zero, List.getElem?_cons_succ, Option.some.injEq] at ho
                  subst ho
                  simp [Region.binds] at hd
                  try simp only [hd, bsel_t]
                  have HF := Lib.hid hF
                  clear hF
                  go_simp
                  exact hK3 _ _ ⟨r, by simp [upd, bsel], by simpa [upd] using hI1, by simpa [upd] using hI2, by simpa [upd] using hI3, HF.out⟩
                | 6, ho =>
                  simp only [List.getElem?_toArray, List.getElem?_cons_zero, List.getElem?_cons_succ, Option.some.injEq] at ho
                  subst ho
                  simp [Region.binds] at hd
                  try simp only [hd, bsel_t]
                  have HF := Lib.hid hF
                  clear hF
                  go_simp
                  exact hK3 _ _ ⟨r, by simp [upd, bsel, hd], by simpa [upd] using hI1, by simpa [upd] using hI2, by simpa [upd] using hI3, HF.out⟩
                | 7, ho =>
                  simp only [List.getElem?_toArray, List.getElem?_cons_zero, List.getElem?_cons_succ, Option.some.injEq] at ho
                  subst ho
                  simp [Region.binds] at hd
                  have hck := HCK.out V hF.z
                  try simp only [hd, bsel_t]
                  have HF := Lib.hid hF
                  clear hF
                  go_simp
                  exact hK3 _ _ ⟨r, by simp [upd, bsel, hd], by simpa [upd] using hI1, by simpa [upd] using hI2, by simpa [upd] using hI3, HF.out⟩
                | 8, ho =>
                  simp only [List.getElem?_toArray, List.getElem?_cons_zero, List.getElem?_cons_succ, Option.some.injEq] at ho
                  subst ho
                  simp [Region.binds] at hd
                  have n9 : L 9 = false := by
                    cases e : L 9
                    · rfl
                    · exact absurd (hI1 e) (by simp [hL])
                  have n10 : L 10 = false := by
                    cases e : L 10
                    · rfl
                    · exact absurd (hI2 e) (by simp [n9])
                  have n12 : L 12 = false := by
                    cases e : L 12
                    · rfl
                    · exact absurd (hI3 e) (by simp [n10])
                  rw [hL] at hF
                  simp only [hd, bsel_t]
                  have HF := Lib.hid hF
                  clear hF
                  go_simp
                  go_at_call 60
                  (with_reducible refine (HC.out V (HB4R.out.trans (HF.out.z.mono HB4R.out.size))).mono ?_)
                  rintro e V' ⟨r', rfl, hr, hb⟩
                  have HF := Lib.hid (HF.out.called hb hr (by omega))
                  clear hb hr
                  go_simp
                  exact hK3 _ _ ⟨r', by simp [upd, bsel, hd, n9, n10, n12], by simp [upd, n9], by simp [upd, n9, n10], by simp [upd, n10, n12], by simpa [upd, hd] using HF.out⟩
                | 9, ho =>
                  simp only [List.getElem?_toArray, List.getElem?_cons_zero, List.getElem?_cons_succ, Option.some.injEq] at ho
                  subst ho
                  simp [Region.binds] at hd
                  try simp only [hd, bsel_t]
                  have HF := Lib.hid hF
                  clear hF
                  go_simp
                  exact hK3 _ _ ⟨r, by simp [upd, bsel, hd], by simp [upd, hd], by simp [upd], by simpa [upd] using hI3, HF.out⟩
                | 10, ho =>
                  simp only [List.getElem?_toArray, List.getElem?_cons_zero, List.getElem?_cons_succ, Option.some.injEq] at ho
                  subst ho
                  simp [Region.binds] at hd
                  have d8 : L 8 = true := hI1 (by simp [hd])
                  try simp only [hd, bsel_t]
                  have HF := Lib.hid hF
                  clear hF
                  go_simp
                  exact hK3 _ _ ⟨r, by simp [upd, bsel, hd, d8], by simpa [upd] using hI1, by simp [upd, hd], by simp [upd], HF.out⟩
                | 11, ho =>
                  simp only [List.getElem?_toArray, List.getElem?_cons_zero, List.getElem?_cons_succ, Option.some.injEq] at ho
                  subst ho
                  simp [Region.binds] at hd
                  have d8 : L 8 = true := hI1 (by simp [hd])
                  try simp only [hd, bsel_t]
                  have HF := Lib.hid hF
                  clear hF
                  go_simp
                  exact hK3 _ _ ⟨r, by simp [upd, bsel, hd, d8], by simpa [upd] using hI1, by simpa [upd] using hI2, by simpa [upd] using hI3, HF.out⟩
                | 12, ho =>
                  simp only [List.getElem?_toArray, List.getElem?_cons_zero, List.getElem?_cons_succ, Option.some.injEq] at ho
                  subst ho
                  simp [Region.binds] at hd
                  try simp only [hd, bsel_t]
                  have HF := Lib.hid hF
                  clear hF
                  go_simp
                  exact hK3 _ _ ⟨r, by simp [upd, bsel, hd], by simpa [upd] using hI1, by simpa [upd] using hI2, by simp [upd, hd], HF.out⟩
                | 13, ho =>
                  simp only [List.getElem?_toArray, List.getElem?_cons_zero, List.getElem?_cons_succ, Option.some.injEq] at ho
                  subst ho
                  simp [Region.binds] at hd
                  try simp only [hd, bsel_t]
                  have HF := Lib.hid hF
                  clear hF
                  go_simp
                  exact hK3 _ _ ⟨r, by simp [upd, bsel, hd], by simpa [upd] using hI1, by simpa [upd] using hI2, by simpa [upd] using hI3, HF.out⟩
                | q + 14, ho => simp at ho
              case fin =>
                intro L act V hJ hfin
                obtain ⟨r, rfl, hI1, hI2, hI3, hF⟩ := hJ
                have l0 : L 0 = true := by
                  cases e : L 0
                  · have x := hfin 0 _ rfl e
                    simp [Region.binds] at x
                  · rfl
                have l1 : L 1 = true := by
                  cases e : L 1
                  · have x := hfin 1 _ rfl e
                    simp [Region.binds, l0] at x
                  · rfl
                have l2 : L 2 = true := by
                  cases e : L 2
                  · have x := hfin 2 _ rfl e
                    simp [Region.binds, l0, l1] at x
                  · rfl
                have l3 : L 3 = true := by
                  cases e : L 3
                  · have x := hfin 3 _ rfl e
                    simp [Region.binds, l0, l1, l2] at x
                  · rfl
                have l4 : L 4 = true := by
                  cases e : L 4
                  · have x := hfin 4 _ rfl e
                    simp [Region.binds, l0, l1, l2, l3] at x
                  · rfl
                have l5 : L 5 = true := by
                  cases e : L 5
                  · have x := hfin 5 _ rfl e
                    simp [Region.binds, l0, l1, l2, l3, l4] at x
                  · rfl
                have l6 : L 6 = true := by
                  cases e : L 6
                  · have x := hfin 6 _ rfl e
                    simp [Region.binds, l0, l1, l2, l3, l4, l5] at x
                  · rfl
                have l7 : L 7 = true := by
                  cases e : L 7
                  · have x := hfin 7 _ rfl e
                    simp [Region.binds, l0, l1, l2, l3, l4, l5, l6] at x
                  · rfl
                have l8 : L 8 = true := by
                  cases e : L 8
                  · have x := hfin 8 _ rfl e
                    simp [Region.binds, l0, l1, l2, l3, l4, l5, l6, l7] at x
                  · rfl
                have l9 : L 9 = true := by
                  cases e : L 9
                  · have x := hfin 9 _ rfl e
                    simp [Region.binds, l0, l1, l2, l3, l4, l5, l6, l7, l8] at x
                  · rfl
                have l10 : L 10 = true := by
                  cases e : L 10
                  · have x := hfin 10 _ rfl e
                    simp [Region.binds, l0, l1, l2, l3, l4, l5, l6, l7, l8, l9] at x
                  · rfl
                have l11 : L 11 = true := by
                  cases e : L 11
                  · have x := hfin 11 _ rfl e
                    simp [Region.binds, l0, l1, l2, l3, l4, l5, l6, l7, l8, l9, l10] at x
                  · rfl
                have l12 : L 12 = true := by
                  cases e : L 12
                  · have x := hfin 12 _ rfl e
                    simp [Region.binds, l0, l1, l2, l3, l4, l5, l6, l7, l8, l9, l10, l11] at x
                  · rfl
                have l13 : L 13 = true := by
                  cases e : L 13
                  · have x := hfin 13 _ rfl e
                    simp [Region.binds, l0, l1, l2, l3, l4, l5, l6, l7, l8, l9, l10, l11, l12] at x
                  · rfl
                simp only [l0, l1, l2, l3, l4, l5, l6, l7, l8, l9, l10, l11, l12, l13, bsel_t]
                obtain ⟨xs, hxo, hxl, hxs⟩ := hF.h8 l8
                have HV := Lib.hid (show Below wr.heap.size wr V from hF.z)
                have hbV := HBEL.out.trans (hF.z.mono hsr)
                have HBV := Lib.hid hbV
                have hsV := hF.z.size
                have hb4V := HB4R.out.trans (hF.z.mono HB4R.out.size)
                have HBWV := Lib.hid (HBW4.out.trans (hb4V.mono HBW4.out.size))
                have hswV := HBWV.out.size
                obtain ⟨y0, y1⟩ := HX.out V (HBX4.out.trans (hb4V.mono hsbx))
                obtain ⟨Af, cf, rfl, hxo⟩ := owns_form hxo
                have HXO := Lib.hid hxo
                have HXS := Lib.hid hxs
                clear hF hfin hI1 hI2 hI3 hxo hxs hbV hb4V l0 l1 l2 l3 l4 l5 l6 l7 l8 l9 l10 l11 l12 l13
                cases o with
                | none =>
                  have HAPN := Lib.hid (show apart l (f + 1) s t = none from by rw [HAP.out, mapO_stop hlt HO.out]; rfl)
                  have HON := Lib.hid (ownsRow_lit (n := 0) (w := V.alloc (.cells #[] 3)) (xs := []) (heap_alloc_new _ _) rfl (by unfold maxLen; omega))
                  have HBN := Lib.hid (HBWV.out.alloc hswV (.cells #[] 3))
                  go_wp2_with fail
                  go_ret2
                  exact ⟨_, by rw [HAPN.out]; rfl, ⟨[], owns_mono HON.out hswV, Nat.zero_le _, fun g hg => by rw [HAPN.out] at hg; cases hg⟩, HBN.out⟩
                | some a =>
                  obtain rfl := HXS.out a rfl
                  have hal := HLN.out xs rfl
                  have HMN := Lib.hid (mapO_take (ap := fun o => apart l f zn o.toNat) hlt HMP.out HO.out)
                  obtain ⟨vs, t1, t2⟩ := HROWS.out.below HV.out (Nat.le_refl _)
                  obtain ⟨AU, cU, rfl, t1⟩ := owns_form t1
                  have hrl := HRL.out
                  rw [hrl] at t1 ⊢
                  have T1 := Lib.hid t1
                  have T2 := Lib.hid t2
                  clear t1 t2
                  go_wp2_with (at_builtin; refine wpList_app el_ints rfl _ _ rfl w5.heap.size _ _ _ rfl T1.out [.slice Af xs.length cf] rfl rfl rfl (one1 rfl) (by omega) (by omega) ?_; intro v7 w7 ho7 hk7 hm7)
                  have HP := Lib.hid (LRows.push (x := xs) (l := rows) (by rw [hrl]; exact T1.out) T2.out (owns_mono HXO.out hsr) (by rw [hrl]; exact ho7) hk7)
                  have HB7 := Lib.hid (below_kept HBV.out hk7 (fun q hq => (T1.out.lt q hq).1) (by omega))
                  clear ho7 hk7 hm7
                  go_wp2_with fail
                  go_roundw
                  case rel => exact ⟨k + 1, _, by omega, by go_num, HMN.out, HP.out, by rw [List.length_append, hrl]; rfl, HB7.out⟩
                  case measure => simp [intOf]; omega
            · obtain rfl : k = os.length := by omega
              have hmp := HMP.out
              rw [List.take_length] at hmp
              have hrl := HRL.out
              obtain ⟨AL, cL, rfl, hlc, hLi⟩ := HROWS.out.lists
              have h200 := mapO_lens (ap := fun o => apart l f zn o.toNat) (fun o a h => apart_len h) hmp
              have hGl := allS_len rows h200
              have HALLC := Lib.hid (show ∀ V, Below wr.heap.size wr V → Calls Tryz.prog 138 #[.slice AL os.length cL] V (fun e w' => ∃ r, e = .returned r ∧ w'.ownsRow 0 3 1 r (allS rows).length (ints (allS rows)) ∧ Below V.heap.size V w' ∧ ∀ q, r.ownBlock = some q → q < wr.heap.size ∨ V.heap.size ≤ q) from fun V hV => by rw [← hrl]; exact l11All_any wr.heap.size rows AL cL V hlc (by omega) h200 hV.size (hLi.below hV))
              have HAPG := Lib.hid (show apart l (f + 1) s t = chkF (4 :: x.2.1 :: allS rows) from by rw [HAP.out, hmp]; rfl)
              have hwr4 := (HBW4.out.trans (HB4R.out.mono HBW4.out.size)).size
              have HBWR := Lib.hid (HBW4.out.trans (HB4R.out.mono HBW4.out.size))
              rw [hrl] at hlc hGl ⊢
              clear hmp hLi h200 hrl HRL
              generalize allS rows = G at *
              go_wp2_with fail
              refine wp_region_inv (by kernel_rfl) (fun L act V => ∃ (bb : Nat) (r v : Value), act = ⟨#[Value.agg #[sv, Value.slice (some ⟨bD, oD, none⟩) l.steps.length d], Value.slice (some ⟨g, 0, none⟩) (M + 1) cg, Value.int IntKind.i64 (s : Int), Value.int IntKind.i64 (t : Int), Value.pointer (some ⟨w.heap.size, 0, none⟩), undef, undef, undef, u8, u9, Value.int IntKind.i64 ((m : Int) + 1), Value.int IntKind.i64 (q : Int), undef, undef, Value.pointer (some ⟨W.heap.size, 0, none⟩), Value.slice A5 os.length c5, Value.slice AL os.length cL, Value.int IntKind.i64 (os.length : Int), u18, u19, bsel (L 6) (v) (undef), Value.slice (some ⟨g, 0, none⟩) (M + 1) cg, Value.int IntKind.i64 (s : Int), Value.int IntKind.i64 (t : Int), Value.int IntKind.i64 ((m : Int) + 1), Value.int IntKind.i64 ((m : Int) + 1), Value.bool false, undef, undef, undef, undef, Value.agg #[sv, Value.slice (some ⟨bD, oD, none⟩) l.steps.length d], Value.slice (some ⟨g, 0, none⟩) (M + 1) cg, Value.int IntKind.i64 ((m : Int) + 1), Value.int IntKind.i64 (m : Int), Value.pointer (some ⟨g, m, none⟩), Value.slice Ap l.shows.length dp, Value.int IntKind.i64 (s : Int), Value.int IntKind.i64 (t : Int), Value.int IntKind.i64 (q : Int), Value.int IntKind.i64 (q : Int), Value.bool (decide ((q : Int) < 0)), undef, undef, undef, undef, undef, undef, undef, undef, undef, undef, undef, undef, undef, undef, undef, undef, undef, Value.pointer (some ⟨w.heap.size, 1, none⟩), Value.slice (some ⟨bD, oD, none⟩) l.steps.length d, Value.int IntKind.i64 (q : Int), Value.pointer (some ⟨bD, oD + q * 3, none⟩), Value.agg #[Value.int IntKind.i64 x.fst, Value.int IntKind.i64 x.snd.fst, Value.int IntKind.i64 (zn : Int)], Value.agg #[sv, Value.slice (some ⟨bD, oD, none⟩) l.steps.length d], Value.int IntKind.i64 (t : Int), Value.pointer (some ⟨W.heap.size, 1, none⟩), Value.int IntKind.i64 x.snd.fst, Value.slice A5 os.length c5, Value.slice (some ⟨w5.heap.size, 0, none⟩) 0 0, Value.int IntKind.i64 (os.length : Int), Value.slice A5 os.length c5, Value.int IntKind.i64 (os.length : Int), Value.bool false, u74, u75, u76, u77, u78, u79, u80, u81, u82, u83, u84, u85, u86, u87, u88, u89, u90, u91, u92, u93, u94, bsel (L 0) (.pointer (some ⟨W.heap.size, 1, none⟩)) (undef), bsel (L 1) (.int .i64 x.2.1) (undef), bsel (L 2) (.slice (some ⟨bb, 0, none⟩) 2 2) (undef), bsel (L 3) (.slice AL os.length cL) (undef), bsel (L 4) (r) (undef), bsel (L 5) (v) (undef), undef, undef, undef, undef], []⟩ ∧ (L 6 = true → L 5 = true) ∧ GF wr x.2.1 G (L 2) (L 4) (L 5) bb r v V) ?h0 ?step ?fin
              case h0 => exact ⟨0, .bool false, .bool false, rfl, fun h => absurd h Bool.false_ne_true, GF.start _ _ _⟩
              case step =>
                intro L act V q oo hJ hL ho hd K3 hK3
                obtain ⟨bb, r, v, rfl, hI, hF⟩ := hJ
                match q, ho with
                | 0, ho =>
                  simp only [List.getElem?_toArray, List.getElem?_cons_zero, List.getElem?_cons_succ, Option.some.injEq] at ho
                  subst ho
                  simp [Region.binds] at hd
                  try simp only [hd, bsel_t]
                  have HF := Lib.hid hF
                  clear hF
                  go_simp
                  exact hK3 _ _ ⟨bb, r, v, by simp [upd, bsel], by simpa [upd] using hI, HF.out⟩
                | 1, ho =>
                  simp only [List.getElem?_toArray, List.getElem?_cons_zero, List.getElem?_cons_succ, Option.some.injEq] at ho
                  subst ho
                  simp [Region.binds] at hd
                  obtain ⟨_, z1, _⟩ := HBX.out V (HB4R.out.trans (hF.z.mono HB4R.out.size))
                  try simp only [hd, bsel_t]
                  have HF := Lib.hid hF
                  clear hF
                  go_simp
                  exact hK3 _ _ ⟨bb, r, v, by simp [upd, bsel, hd], by simpa [upd] using hI, HF.out⟩
                | 2, ho =>
                  simp only [List.getElem?_toArray, List.getElem?_cons_zero, List.getElem?_cons_succ, Option.some.injEq] at ho
                  subst ho
                  simp [Region.binds] at hd
                  rw [hL] at hF
                  simp only [hd, bsel_t]
                  have HF := Lib.hid hF.build
                  clear hF
                  go_simp
                  exact hK3 _ _ ⟨V.heap.size, r, v, by simp [upd, bsel, hd], by simpa [upd] using hI, by simpa [upd, hd] using HF.out⟩
                | 3, ho =>
                  simp only [List.getElem?_toArray, List.getElem?_cons_zero, List.getElem?_cons_succ, Option.some.injEq] at ho
                  subst ho
                  simp [Region.binds] at hd
                  try simp only [hd, bsel_t]
                  have HF := Lib.hid hF
                  clear hF
                  go_simp
                  exact hK3 _ _ ⟨bb, r, v, by simp [upd, bsel], by simpa [upd] using hI, HF.out⟩
                | 4, ho =>
                  simp only [List.getElem?_toArray, List.getElem?_cons_zero, List.getElem?_cons_succ, Option.some.injEq] at ho
                  subst ho
                  simp [Region.binds] at hd
                  rw [hL] at hF
                  simp only [hd, bsel_t]
                  have HF := Lib.hid hF
                  clear hF
                  go_simp
                  go_at_call 138
                  (with_reducible refine (HALLC.out V HF.out.z).mono ?_)
                  rintro e V' ⟨r', rfl, hr, hb, _⟩
                  have HF := Lib.hid (HF.out.called hb hr)
                  clear hb hr
                  go_simp
                  exact hK3 _ _ ⟨bb, r', v, by simp [upd, bsel, hd], by simpa [upd] using hI, by simpa [upd, hd] using HF.out⟩
                | 5, ho =>
                  simp only [List.getElem?_toArray, List.getElem?_cons_zero, List.getElem?_cons_succ, Option.some.injEq] at ho
                  subst ho
                  simp [Region.binds] at hd
                  have hz : L 6 = false := by
                    cases e : L 6
                    · rfl
                    · exact absurd (hI e) (by simp [hL])
                  obtain ⟨d2, d4⟩ : L 2 = true ∧ L 4 = true := by simp [hd]
                  rw [d2, d4, hL] at hF
                  simp only [hd, bsel_t]
                  have HF := Lib.hid hF
                  clear hF
                  refine step_append_row rfl (.tmp 97) (.tmp 99) rfl wr.heap.size 0 (.slice (some ⟨bb, 0, none⟩) 2 2) 2 [.int .i64 4, .int .i64 x.2.1] (by rfl) (HF.out.h2 rfl rfl) r G.length (ints G) (by rfl) (HF.out.h4 rfl rfl) (ints_one _) (by omega) HF.out.z.size ?_
                  intro v' V' ho hk
                  have HF := Lib.hid (HF.out.app ho hk)
                  clear ho hk
                  go_simp
                  exact hK3 _ _ ⟨bb, r, v', by simp [upd, bsel, hd, hz], by simp [upd], by simpa [upd, hd] using HF.out⟩
                | 6, ho =>
                  simp only [List.getElem?_toArray, List.getElem?_cons_zero, List.getElem?_cons_succ, Option.some.injEq] at ho
                  subst ho
                  simp [Region.binds] at hd
                  try simp only [hd, bsel_t]
                  have HF := Lib.hid hF
                  clear hF
                  go_simp
                  exact hK3 _ _ ⟨bb, r, v, by simp [upd, bsel, hd], by simp [upd, hd], HF.out⟩
                | q + 7, ho => simp at ho
              case fin =>
                intro L act V hJ hfin
                obtain ⟨bb, r, v, rfl, hI, hF⟩ := hJ
                have l0 : L 0 = true := by
                  cases e : L 0
                  · have x := hfin 0 _ rfl e
                    simp [Region.binds] at x
                  · rfl
                have l1 : L 1 = true := by
                  cases e : L 1
                  · have x := hfin 1 _ rfl e
                    simp [Region.binds, l0] at x
                  · rfl
                have l2 : L 2 = true := by
                  cases e : L 2
                  · have x := hfin 2 _ rfl e
                    simp [Region.binds, l0, l1] at x
                  · rfl
                have l3 : L 3 = true := by
                  cases e : L 3
                  · have x := hfin 3 _ rfl e
                    simp [Region.binds, l0, l1, l2] at x
                  · rfl
                have l4 : L 4 = true := by
                  cases e : L 4
                  · have x := hfin 4 _ rfl e
                    simp [Region.binds, l0, l1, l2, l3] at x
                  · rfl
                have l5 : L 5 = true := by
                  cases e : L 5
                  · have x := hfin 5 _ rfl e
                    simp [Region.binds, l0, l1, l2, l3, l4] at x
                  · rfl
                have l6 : L 6 = true := by
                  cases e : L 6
                  · have x := hfin 6 _ rfl e
                    simp [Region.binds, l0, l1, l2, l3, l4, l5] at x
                  · rfl
                simp only [l0, l1, l2, l3, l4, l5, l6, bsel_t]
                have h5 := hF.h5 l5
                have HZ := Lib.hid (HBWR.out.trans (hF.z.mono hwr4))
                obtain ⟨A5', c5', rfl, h5⟩ := owns_form h5
                have H5 := Lib.hid (owns_mono h5 hwr4)
                clear hF hfin hI h5 l0 l1 l2 l3 l4 l5 l6
                rw [show (4 :: x.2.1 :: G).length = G.length + 2 from rfl] at *
                cases hlen : decide ((G.length : Int) + 2 ≤ 200) with
                | false =>
                  have HFZ := Lib.hid (show chkF (4 :: x.2.1 :: G) = none from by unfold chkF; rw [if_neg (by have := of_decide_eq_false hlen; simp only [List.length_cons]; omega)])
                  go_wp2_with fail
                  go_ret2
                  exact ⟨_, by rw [HAPG.out, HFZ.out]; rfl, ⟨4 :: x.2.1 :: G, H5.out, by simp only [List.length_cons]; omega, fun g hg => by rw [HAPG.out, HFZ.out] at hg; cases hg⟩, HZ.out⟩
                | true =>
                  have HFZ := Lib.hid (show chkF (4 :: x.2.1 :: G) = some (4 :: x.2.1 :: G) from by unfold chkF; rw [if_pos (by have := of_decide_eq_true hlen; simp only [List.length_cons]; omega)])
                  go_wp2_with fail
                  go_ret2
                  exact ⟨_, by rw [HAPG.out, HFZ.out]; rfl, ⟨4 :: x.2.1 :: G, H5.out, by simp only [List.length_cons]; omega, fun g hg => by rw [HAPG.out, HFZ.out] at hg; injection hg⟩, HZ.out⟩

end Go.Proofs.YtdgnhfhaaghoaaaGreatDoor
