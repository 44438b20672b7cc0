/- Labelled systems: the program's saturated system, walked. -/
import Derived.Test.YtdgnhfhaaghoaaaGreatDoorProg
import Derived.Test.YtdgnhfhaaghoaaaGreatDoorJ45
import Derived.Test.YtdgnhfhaaghoaaaGreatDoorJ46
import Derived.Test.YtdgnhfhaaghoaaaGreatDoorJ10
set_option linter.unusedSimpArgs false
set_option linter.unusedVariables false
namespace Go.Proofs.YtdgnhfhaaghoaaaGreatDoor
open Go.RowKit

theorem wayAt {n : Nat} {ss : List I3} (h : StepsN n ss) {i m : Nat} (hi : i < n) (hm : m < (waysR n ss i).length) : ∃ t : Nat, (waysR n ss i).getD m 0 = (t : Int) ∧ t < n := by
  have e : (waysR n ss i).getD m 0 = (waysR n ss i)[m] := by simp [List.getD, hm]
  obtain ⟨t, ht, hn⟩ := ways_inN h hi _ (List.getElem_mem hm)
  exact ⟨t, by rw [e, ht], hn⟩
theorem waysTo_at {n : Nat} {ss : List I3} {i k : Nat} (h : i < (waysTo n ss k).length) : (waysTo n ss k)[i] = waysR n ss i := by simp [waysTo]
theorem marks_next {n : Nat} {sh : List (List Int)} {ss : List I3} {i m t : Nat} {o : List Int} (hm : m < (waysR n ss i).length) (ht : (waysR n ss i).getD m 0 = (t : Int)) (hts : t < sh.length) (he : EitherL (unionsI sh ((waysR n ss i).take m) []) sh[t] o) : o = unionsI sh ((waysR n ss i).take (m + 1)) [] := by
  have e : (waysR n ss i).getD m 0 = (waysR n ss i)[m] := by simp [List.getD, hm]
  rw [List.take_succ_eq_append_getElem hm, unionsI_snoc, ← e, ht, Int.toNat_natCast]
  have e2 : sh.getD t [] = sh[t] := by simp [List.getD, hts]
  rw [e2]
  exact union_of (unions_fold sh _ [] List.Pairwise.nil).1 he.1 he.2

theorem rowsF_next (n : Nat) (f : Nat → List Int) : rowsF n f ++ [f n] = rowsF (n + 1) f := by
  unfold rowsF
  rw [List.range_succ, List.map_append]
  rfl
theorem ways_row {w1 : World} {B g n cw : Nat} {ls : List (List Int)} (h : TRN w1 B (.slice (some ⟨g, 0, none⟩) n cw) ls) {i : Nat} (hi : i < ls.length) : ∃ rb rd, ls[i].length ≤ rd ∧ ∀ W, Below w1.heap.size w1 W → W.cell? ⟨g, i, none⟩ = some (.slice (some ⟨rb, 0, none⟩) ls[i].length rd) ∧ ∀ j, j < ls[i].length → W.cell? ⟨rb, j, none⟩ = some (.int .i64 (ls[i].getD j 0)) := by
  obtain ⟨g', c, b, d, e, _, _, _, hc, _, hd, hC⟩ := h.at_ hi
  injection e with e1 _ _
  injection e1 with e1
  injection e1 with e1
  subst e1
  refine ⟨b, d, hd, fun W hW => ⟨cell_below hW hc (lt_of_cell hc), fun j hj => ?_⟩⟩
  obtain ⟨b', o', e, hc2⟩ := (hC.below hW).int hj
  cases e
  have := hc2 j hj
  rw [Nat.zero_add] at this
  exact this

set_option maxRecDepth 100000 in
set_option maxHeartbeats 16000000 in
theorem saturated_any (v : Value) (l : Lab) (M : Nat) (w : World) (hs : SmallLab l) (hM : M ≤ 10000) (hsh : ∀ xs ∈ l.shows, xs.length ≤ M) (hn1 : 1 ≤ l.shows.length) (hn40 : l.shows.length ≤ 40) (hst : StepsN l.shows.length l.steps) (hv : RLab w v l) :
    Calls Tryz.prog 100 #[v] w fun e w' => ∃ r, e = .returned r ∧ OwnLab w' (fun b => w.heap.size ≤ b ∧ b < w'.heap.size) r (satL l) ∧ Below w.heap.size w w' := by
  have HST := Lib.hid hst
  have hsl := hs.2.1
  have hv0 := hv
  obtain ⟨sv, tv, rfl, hsv, htv⟩ := hv
  have HSV := Lib.hid (show ∀ W, Below w.heap.size w W → RSS W sv l.shows from fun W hb => hsv.below hb)
  have HTV := Lib.hid (show ∀ W, Below w.heap.size w W → RA3 W tv l.steps from fun W hb => htv.below hb)
  have HV := Lib.hid (show ∀ W, Below w.heap.size w W → RLab W (.agg #[sv, tv]) l from fun W hb => hv0.below hb)
  obtain ⟨A, c0, vs, rfl, hmA, _, _, _⟩ := hsv
  obtain ⟨D, d, rfl, hmD, _⟩ := htv
  obtain ⟨W0, hW0⟩ : ∃ W0, W0 = (w.alloc (.cells #[.slice A l.shows.length c0, .slice D l.steps.length d] 27)).alloc (.cells #[.slice none 0 0, .slice none 0 0] 27) := ⟨_, rfl⟩
  have hz0 : Below w.heap.size w W0 := by rw [hW0]; exact ((Below.refl _ _).alloc (Nat.le_refl _) _).alloc (by simp) _
  have hs0 : W0.heap.size = w.heap.size + 1 + 1 := by rw [hW0]; simp
  have bx0 : W0.heap[w.heap.size]? = some (.cells #[.slice A l.shows.length c0, .slice D l.steps.length d] 27) := by rw [hW0]; exact (heap_alloc_old _ _ (by simp)).trans (heap_alloc_new _ _)
  have br0 : W0.heap[w.heap.size + 1]? = some (.cells #[.slice none 0 0, .slice none 0 0] 27) := by rw [hW0]; exact heap_alloc2_new _ _ _
  have HX := Lib.hid (show ∀ W, Below W0.heap.size W0 W → W.cell? ⟨w.heap.size, 0, none⟩ = some (.slice A l.shows.length c0) ∧ W.cell? ⟨w.heap.size, 1, none⟩ = some (.slice D l.steps.length d) from fun W hW => by
    have := (hW.block _ (by omega)).trans bx0
    exact ⟨cell_of_row _ _ _ _ _ _ this, cell_of_row _ _ _ _ _ _ this⟩)
  have HR := Lib.hid (show ∀ W, Below W0.heap.size W0 W → W.heap[w.heap.size + 1]? = some (.cells #[.slice none 0 0, .slice none 0 0] 27) from fun W hW => (hW.block _ (by omega)).trans br0)
  have HSV := Lib.hid (show ∀ W, Below W0.heap.size W0 W → RSS W (.slice A l.shows.length c0) l.shows from fun W hb => HSV.out W (hz0.trans (hb.mono hz0.size)))
  have HTV := Lib.hid (show ∀ W, Below W0.heap.size W0 W → RA3 W (.slice D l.steps.length d) l.steps from fun W hb => HTV.out W (hz0.trans (hb.mono hz0.size)))
  have HSIL := Lib.hid (silent_any _ l W0 hs hn1 hn40 hst (HV.out W0 hz0))
  have HZ0 := Lib.hid hz0
  have HWL := Lib.hid (fun j => ways_len hst hn40 j)
  obtain ⟨x0, x1⟩ := HX.out W0 (Below.refl _ _)
  have HW0 := Lib.hid hW0
  have hsz0 : w.heap.size ≤ W0.heap.size := by omega
  have hsz02 : w.heap.size + 1 < W0.heap.size := by omega
  clear hst bx0 br0 hz0 hs0 hW0 hv0 hs
  unfold maxLen at hmA hmD
  go_enter Tryz.func100, Tryz.ntmps100
  go_wp2_with fail
  rw [← HW0.out]
  go_wp2_with fail
  refine HSIL.out.mono ?_
  rintro e w1 ⟨u, rfl, htw, hb1⟩
  have hgw : ∃ gw cw, u = .slice (some ⟨gw, 0, none⟩) l.shows.length cw := by
    obtain ⟨g, c, b, d, e, _⟩ := htw.at_ (i := 0) (by rw [waysTo_len]; omega)
    rw [waysTo_len] at e
    exact ⟨g, c, e⟩
  obtain ⟨gw, cw, rfl⟩ := hgw
  have HROW := Lib.hid (show ∀ i, i < l.shows.length → ∃ rb rd, (waysR l.shows.length l.steps i).length ≤ rd ∧ ∀ W, Below w1.heap.size w1 W → W.cell? ⟨gw, i, none⟩ = some (.slice (some ⟨rb, 0, none⟩) (waysR l.shows.length l.steps i).length rd) ∧ ∀ j, j < (waysR l.shows.length l.steps i).length → W.cell? ⟨rb, j, none⟩ = some (.int .i64 ((waysR l.shows.length l.steps i).getD j 0)) from fun i hi => by
    have := ways_row htw (i := i) (by rw [waysTo_len]; exact hi)
    rw [waysTo_at] at this
    exact this)
  have hs01 := hb1.size
  have HB01 := Lib.hid hb1
  have HP0 := Lib.hid (show P4 w1 w1.heap.size (w1.alloc (.cells #[.slice none 0 0, .slice none 0 0] 27)).heap.size (rowsF 0 (progShow l.shows.length l.shows l.steps)) (preP l.shows.length l.steps 0) (.slice none 0 0) [] (w1.alloc (.cells #[.slice none 0 0, .slice none 0 0] 27)) from
    ⟨(Below.refl _ _).alloc (Nat.le_refl _) _, ⟨_, _, heap_alloc_new _ _, ⟨[], World.ownsRow_nil _ _ _ _, fun i v xs h => by simp at h, fun i j v v' b _ h => by simp at h, fun i v b h => by simp at h⟩, World.ownsRow_nil _ _ _ _⟩, World.ownsRow_nil _ _ _ _, Nat.le_refl _, by simp, Nat.le_refl _⟩)
  have HBA := Lib.hid (hb1.alloc hs01 (.cells #[.slice none 0 0, .slice none 0 0] 27))
  obtain ⟨x0, x1⟩ := HX.out _ HBA.out
  clear htw hb1 HSIL HW0
  go_wp2_with fail
  go_loopw [19] (fun i wr => ∃ k : Nat, k ≤ l.shows.length ∧ i = .int .i64 k ∧ P4 w1 w1.heap.size wr.heap.size (rowsF k (progShow l.shows.length l.shows l.steps)) (preP l.shows.length l.steps k) (.slice none 0 0) [] wr)
    (fun i _ => l.shows.length - (intOf i).toNat)
  case atStart => exact ⟨0, Nat.zero_le _, rfl, HP0.out⟩
  case round =>
    clear HP0 HBA x0 x1
    obtain ⟨i, hi, rfl, hp⟩ := hrel
    have hd0 := HB01.out.trans (hp.keep.mono hs01)
    obtain ⟨x0, x1⟩ := HX.out wr hd0
    by_cases hin : i < l.shows.length
    · obtain ⟨z, hz⟩ : ∃ z, z = wr.heap.size := ⟨_, rfl⟩
      have HZ := Lib.hid hz
      have hpa := (hp.below ((Below.refl _ wr).alloc (Nat.le_refl _) (.cells #[] 3))).fresh (z' := wr.heap.size) (u' := .slice (some ⟨wr.heap.size, 0, none⟩) 0 0) (o' := []) (Nat.le_refl _) (by simp) (made_row wr 3)
      have hda := HB01.out.trans (hpa.keep.mono hs01)
      obtain ⟨x0, x1⟩ := HX.out _ hda
      obtain ⟨rb, rd, hrd, hrow⟩ := HROW.out i hin
      have HWI := Lib.hid hrow
      have hrc := (hrow _ hpa.keep).1
      clear hrow
      have q0 : (0 : Int) ≤ (i : Int) := by omega
      have q1 : (i : Int) < (l.shows.length : Int) := by omega
      have HPA := Lib.hid (show P4 w1 w1.heap.size z (rowsF i (progShow l.shows.length l.shows l.steps)) (stA4 l.shows.length l.steps i 0) (.slice (some ⟨wr.heap.size, 0, none⟩) 0 0) (unionsI l.shows ((waysR l.shows.length l.steps i).take 0) []) (wr.alloc (.cells #[] 3)) from by rw [stA4_zero, HZ.out]; exact hpa)
      have hwl := HWL.out i hin
      clear hp hd0 hpa hda hz
      go_wp2_with fail
      go_loopw [6, 28] (fun u q wr => ∃ m : Nat, m ≤ (waysR l.shows.length l.steps i).length ∧ q = .int .i64 m ∧ P4 w1 w1.heap.size z (rowsF i (progShow l.shows.length l.shows l.steps)) (stA4 l.shows.length l.steps i m) u (unionsI l.shows ((waysR l.shows.length l.steps i).take m) []) wr)
        (fun _ q _ => (waysR l.shows.length l.steps i).length - (intOf q).toNat)
      case atStart => exact ⟨0, Nat.zero_le _, rfl, HPA.out⟩
      case round =>
        clear HPA x0 x1 hrc
        obtain ⟨m, hm, rfl, hp⟩ := hrel
        obtain ⟨AM, cM, rfl, hmk⟩ := owns_form hp.marks
        have hd0 := HB01.out.trans (hp.keep.mono hs01)
        have hzs := hp.hz.2
        have hzw := hp.hz.1
        have hszr := hp.keep.size
        obtain ⟨x0, x1⟩ := HX.out wr hd0
        by_cases hml : m < (waysR l.shows.length l.steps i).length
        · obtain ⟨t, ht, htn⟩ := wayAt HST.out hin hml
          obtain ⟨hrc, hcm⟩ := HWI.out wr hp.keep
          have cm := hcm m hml
          rw [ht] at cm
          obtain ⟨A', c', us, e, _, hul, hcu, hru⟩ := HSV.out wr hd0
          cases e
          obtain ⟨sb, so, rfl, hcc⟩ := hcu.at_ (k := t) (by omega)
          have ct := hcc t _ (List.getElem?_eq_getElem (by omega))
          obtain ⟨At, at_, et, _, hAt⟩ := hru t _ _ (List.getElem?_eq_getElem (by omega)) (List.getElem?_eq_getElem htn)
          rw [et] at ct
          have hmlen := unionsI_len hsh ((waysR l.shows.length l.steps i).take m) []
          have hsm := hsh _ (List.getElem_mem htn)
          have hm40 : ((waysR l.shows.length l.steps i).take m).length * M ≤ 40 * 10000 := Nat.mul_le_mul (by rw [List.length_take]; omega) hM
          rw [List.length_nil, Nat.zero_add] at hmlen
          have HE := Lib.hid (either_any AM At cM at_ _ l.shows[t] wr (by omega) (Cells.of_owns hmk) hAt)
          have HNX := Lib.hid (fun o he => marks_next (o := o) hml ht htn he)
          have HB0 := Lib.hid (stB4_zero l.shows.length l.steps i m)
          have HBALL := Lib.hid (stB4_all (ss := l.steps) hml)
          have HT := Lib.hid ht
          have hlenA := stA4_len (m := m) HST.out hn40 hin hsl
          have HP := Lib.hid hp
          have q2 : (0 : Int) ≤ (m : Int) := by omega
          have q3 : (m : Int) < ((waysR l.shows.length l.steps i).length : Int) := by omega
          have q4 : (0 : Int) ≤ (t : Int) := by omega
          have q5 : (t : Int) < (l.shows.length : Int) := by omega
          clear hp hmk hd0 hcm hcu hru hcc et hAt hmlen hm40 ht
          go_wp2_with fail
          refine HE.out.mono ?_
          rintro e w5 ⟨r, o, rfl, he, hr, hb5⟩
          obtain rfl := HNX.out o he
          obtain ⟨AR, cR, rfl, hr⟩ := owns_form hr
          have hp5 := (HP.out.below hb5).withMarks (owns_mono hr hzs)
          obtain ⟨su, tu, bb1, bb2, bb3⟩ := hp5.box
          have hsu := bb2.rows
          obtain ⟨vs5, hv5, _, _⟩ := hsu
          obtain ⟨AS, cS, rfl, _⟩ := owns_form hv5
          obtain ⟨AT, cT, rfl, bb3⟩ := owns_form bb3
          obtain ⟨y0, y1, y2, y3⟩ := box_two bb1
          have hs15 := hp5.keep.size
          have HP5 := Lib.hid hp5
          have B1 := Lib.hid bb1
          have B2 := Lib.hid bb2
          have B3 := Lib.hid bb3
          clear he hr hb5 hp5 bb1 bb2 bb3 hv5
          go_wp2_with (at_builtin; refine wpList_app el_a3 rfl _ _ rfl w1.heap.size _ _ _ rfl B3.out (tri ((i : Int), (0 : Int), (t : Int))) rfl rfl rfl (fun u hu => by simp [tri] at hu; rcases hu with rfl | rfl | rfl <;> rfl) (by omega) hs15 ?_; intro v6 w6 ho6 hk6 hm6; obtain ⟨A6, c6, rfl, ho6⟩ := owns_form ho6; have hb6 := (hk6.block w1.heap.size (Array.getElem?_eq_some_iff.1 B1.out).1 (owns_ne B3.out B1.out (by decide))).trans B1.out; obtain ⟨z0, z1, z2, z3⟩ := box_two hb6; have hp7 := HP5.out.step B1.out B2.out B3.out ho6 hk6; obtain ⟨x0, x1⟩ := HX.out _ (HB01.out.trans (hp7.keep.mono hs01)))
          rw [← HT.out, ← HB0.out] at hp7
          have HP7 := Lib.hid hp7
          clear ho6 hk6 hm6 hb6 z0 z1 z2 z3 y0 y1 y2 y3 hp7 x0 x1 hlenA
          go_loopw [50] (fun q wr => ∃ k : Nat, k ≤ l.steps.length ∧ q = .int .i64 k ∧ P4 w1 w1.heap.size z (rowsF i (progShow l.shows.length l.shows l.steps)) (stB4 l.shows.length l.steps i m k) (.slice AR (unionsI l.shows ((waysR l.shows.length l.steps i).take (m + 1)) []).length cR) (unionsI l.shows ((waysR l.shows.length l.steps i).take (m + 1)) []) wr)
            (fun q _ => l.steps.length - (intOf q).toNat)
          case atStart => exact ⟨0, Nat.zero_le _, rfl, HP7.out⟩
          case round =>
            clear HP7
            obtain ⟨k, hk, rfl, hp⟩ := hrel
            have hd0 := HB01.out.trans (hp.keep.mono hs01)
            have hszr := hp.keep.size
            obtain ⟨x0, x1⟩ := HX.out wr hd0
            by_cases hkt : k < l.steps.length
            · obtain ⟨b, oo, c', e, h0, h1, h2⟩ := (HTV.out wr hd0).at_ (List.getElem?_eq_getElem hkt)
              cases e
              obtain ⟨su', zn, hu, hz2, hun, hzn⟩ := HST.out _ (List.getElem_mem hkt)
              have hgd : l.steps.getD k (0, 0, 0) = l.steps[k] := by simp [List.getD, hkt]
              have HSKIP := Lib.hid (fun ho => stB4_skip (n := l.shows.length) (i := i) (m := m) hkt ho)
              have HALL := Lib.hid (fun ho => stC4_all (n := l.shows.length) (i := i) (m := m) hkt ho)
              have HC0 := Lib.hid (stC4_zero l.shows.length l.steps i m k)
              have HCN := Lib.hid (fun e h => stC4_next (n := l.shows.length) (ss := l.steps) (i := i) (m := m) (k := k) (e := e) h)
              have HCL := Lib.hid (fun e => stC4_len (m := m) (k := k) (e := e) HST.out hn40 hin hsl)
              rw [hgd] at HSKIP HALL HCN
              have hpa := hp.below ((Below.refl _ wr).alloc (Nat.le_refl _) (.cells #[.int .i64 l.steps[k].1, .int .i64 l.steps[k].2.1, .int .i64 l.steps[k].2.2] 103))
              have HBX := Lib.hid (heap_alloc_new wr (.cells #[.int .i64 l.steps[k].1, .int .i64 l.steps[k].2.1, .int .i64 l.steps[k].2.2] 103))
              have g0 : (wr.alloc (.cells #[.int .i64 l.steps[k].1, .int .i64 l.steps[k].2.1, .int .i64 l.steps[k].2.2] 103)).cell? ⟨wr.heap.size, 0, none⟩ = some (.int .i64 l.steps[k].1) := cell_of_row _ _ _ _ _ _ HBX.out
              have g1 : (wr.alloc (.cells #[.int .i64 l.steps[k].1, .int .i64 l.steps[k].2.1, .int .i64 l.steps[k].2.2] 103)).cell? ⟨wr.heap.size, 1, none⟩ = some (.int .i64 l.steps[k].2.1) := cell_of_row _ _ _ _ _ _ HBX.out
              have q6 : (0 : Int) ≤ (k : Int) := by omega
              have q7 : (k : Int) < (l.steps.length : Int) := by omega
              have HPA := Lib.hid hpa
              have HP0 := Lib.hid hp
              clear hp hd0 hpa hu hgd
              cases ho : isOut (t : Int) l.steps[k]
              · have HSK := Lib.hid (HSKIP.out (by rw [HT.out]; exact ho))
                cases h00 : (l.steps[k].1 == (t : Int))
                · have hne : (l.steps[k].1 != (t : Int)) = true := by unfold bne; rw [h00]; rfl
                  clear ho h00 hz2
                  generalize l.steps[k] = s at *
                  go_wp2_with fail
                  go_roundw
                  case rel => exact ⟨k + 1, by omega, by go_num, by rw [HSK.out]; exact HPA.out⟩
                  case measure => simp [intOf]; omega
                · have hne : (l.steps[k].1 != (t : Int)) = false := by unfold bne; rw [h00]; rfl
                  have hz : (l.steps[k].2.1 == 0) = true := by
                    unfold isOut at ho
                    rw [h00, Bool.true_and] at ho
                    simpa using ho
                  clear ho h00 hz2
                  generalize l.steps[k] = s at *
                  go_wp2_with fail
                  go_roundw
                  case rel => exact ⟨k + 1, by omega, by go_num, by rw [HSK.out]; exact HPA.out⟩
                  case measure => simp [intOf]; omega
              · have HAL := Lib.hid (HALL.out (by rw [HT.out]; exact ho))
                have h00 : (l.steps[k].1 == (t : Int)) = true ∧ (l.steps[k].2.1 == 0) = false := by
                  unfold isOut at ho
                  rw [Bool.and_eq_true] at ho
                  exact ⟨ho.1, by simpa using ho.2⟩
                have hne : (l.steps[k].1 != (t : Int)) = false := by unfold bne; rw [h00.1]; rfl
                have hz := h00.2
                have hzt : l.steps[k].2.2.toNat = zn := by omega
                rw [hzt] at HAL HCN
                rw [hz2] at HPA HBX g0 g1 h2
                obtain ⟨rb2, rd2, hrd2, hrow2⟩ := HROW.out zn hzn
                have HWJ := Lib.hid hrow2
                have hrc2 := (hrow2 _ HPA.out.keep).1
                have g2 : (wr.alloc (.cells #[.int .i64 l.steps[k].1, .int .i64 l.steps[k].2.1, .int .i64 zn] 103)).cell? ⟨wr.heap.size, 2, none⟩ = some (.int .i64 zn) := cell_of_row _ _ _ _ _ _ HBX.out
                have q8 : (0 : Int) ≤ (zn : Int) := by omega
                have q9 : (zn : Int) < (l.shows.length : Int) := by omega
                have hwl2 := HWL.out zn hzn
                have HAP := Lib.hid (show ∀ su tu, (wr.alloc (.cells #[.int .i64 l.steps[k].1, .int .i64 l.steps[k].2.1, .int .i64 zn] 103)).heap[w1.heap.size]? = some (.cells #[su, tu] 27) → tu.ownBlock ≠ some wr.heap.size from fun su tu hbx e => by
                  obtain ⟨su2, tu2, b1, _, b3⟩ := HP0.out.box
                  have h5 := (Array.getElem?_eq_some_iff.1 b1).1
                  rw [heap_alloc_old _ _ h5, b1] at hbx
                  injection hbx with hbx
                  injection hbx with hbx _
                  injection hbx with hbx
                  injection hbx with _ hbx
                  injection hbx with hbx _
                  subst hbx
                  have := (b3.lt _ e).2
                  omega)
                have hnb : w1.heap.size < wr.heap.size := by
                  obtain ⟨_, _, hbx, _⟩ := HPA.out.box
                  have h5 := (Array.getElem?_eq_some_iff.1 hbx).1
                  simp at h5
                  refine Nat.lt_of_le_of_ne hszr (fun e => ?_)
                  rw [e, heap_alloc_new] at hbx
                  injection hbx with hbx
                  injection hbx with _ hbx
                  exact absurd hbx (by decide)
                obtain ⟨nb, hnbe⟩ : ∃ nb, nb = wr.heap.size := ⟨_, rfl⟩
                have HNB := Lib.hid hnbe
                rw [← hnbe] at HBX hnb HAP
                clear ho h00 hz2 hzt hrow2 hnbe
                generalize l.steps[k] = s at *
                go_wp2_with fail
                rw [← HNB.out]
                go_loopw [69] (fun q wr => ∃ e : Nat, e ≤ (waysR l.shows.length l.steps zn).length ∧ q = .int .i64 e ∧ P4 w1 w1.heap.size z (rowsF i (progShow l.shows.length l.shows l.steps)) (stC4 l.shows.length l.steps i m k e) (.slice AR (unionsI l.shows ((waysR l.shows.length l.steps i).take (m + 1)) []).length cR) (unionsI l.shows ((waysR l.shows.length l.steps i).take (m + 1)) []) wr ∧ wr.heap[nb]? = some (.cells #[.int .i64 s.1, .int .i64 s.2.1, .int .i64 zn] 103) ∧ ∀ su tu, wr.heap[w1.heap.size]? = some (.cells #[su, tu] 27) → tu.ownBlock ≠ some nb)
                  (fun q _ => (waysR l.shows.length l.steps zn).length - (intOf q).toNat)
                case atStart => exact ⟨0, Nat.zero_le _, rfl, by rw [HC0.out]; exact HPA.out, HBX.out, HAP.out⟩
                case round =>
                  clear HPA HBX HAP HP0 g0 g1 g2 h0 h1 h2 x0 x1 HNB hrc2
                  obtain ⟨e, he, rfl, hp, hbx, hap⟩ := hrel
                  have g1 : wr.cell? ⟨nb, 1, none⟩ = some (.int .i64 s.2.1) := cell_of_row _ _ _ _ _ _ hbx
                  by_cases hel : e < (waysR l.shows.length l.steps zn).length
                  · have ce := (HWJ.out wr hp.keep).2 e hel
                    obtain ⟨su, tu, bb1, bb2, bb3⟩ := hp.box
                    have hsu := bb2.rows
                    obtain ⟨vs5, hv5, _, _⟩ := hsu
                    obtain ⟨AS, cS, rfl, _⟩ := owns_form hv5
                    obtain ⟨AT, cT, rfl, bb3⟩ := owns_form bb3
                    obtain ⟨y0, y1, y2, y3⟩ := box_two bb1
                    have hs15 := hp.keep.size
                    have hlenC := HCL.out e
                    have HNE := Lib.hid (HCN.out e hel)
                    have HP := Lib.hid hp
                    have HBX := Lib.hid hbx
                    have HAP := Lib.hid (hap _ _ bb1)
                    have B1 := Lib.hid bb1
                    have B2 := Lib.hid bb2
                    have B3 := Lib.hid bb3
                    have q10 : (0 : Int) ≤ (e : Int) := by omega
                    have q11 : (e : Int) < ((waysR l.shows.length l.steps zn).length : Int) := by omega
                    have hnbl := (Array.getElem?_eq_some_iff.1 hbx).1
                    clear hp hbx hap bb1 bb2 bb3 hv5
                    generalize (waysR l.shows.length l.steps zn).getD e 0 = ev at *
                    go_wp2_with (at_builtin; refine wpList_app el_a3 rfl _ _ rfl w1.heap.size _ _ _ rfl B3.out (tri ((i : Int), s.2.1, ev)) rfl rfl rfl (fun u hu => by simp [tri] at hu; rcases hu with rfl | rfl | rfl <;> rfl) (by omega) hs15 ?_; intro v6 w6 ho6 hk6 hm6; obtain ⟨A6, c6, rfl, ho6⟩ := owns_form ho6; have hb6 := (hk6.block w1.heap.size (Array.getElem?_eq_some_iff.1 B1.out).1 (owns_ne B3.out B1.out (by decide))).trans B1.out; obtain ⟨z0, z1, z2, z3⟩ := box_two hb6)
                    have HP7 := Lib.hid (HP.out.step B1.out B2.out B3.out ho6 hk6)
                    have HBX7 := Lib.hid (show (w6.setCell ⟨w1.heap.size, 1, none⟩ (.slice A6 ((stC4 l.shows.length l.steps i m k e).length + 1) c6)).heap[nb]? = some (.cells #[.int .i64 s.1, .int .i64 s.2.1, .int .i64 zn] 103) from (heap_setCell_other w6 ⟨w1.heap.size, 1, none⟩ nb _ (by dsimp only; omega)).trans ((hk6.block nb hnbl HAP.out).trans HBX.out))
                    have HAP7 := Lib.hid (show ∀ su tu, (w6.setCell ⟨w1.heap.size, 1, none⟩ (.slice A6 ((stC4 l.shows.length l.steps i m k e).length + 1) c6)).heap[w1.heap.size]? = some (.cells #[su, tu] 27) → tu.ownBlock ≠ some nb from fun su2 tu2 hb2 e2 => by
                      have h9 := heap_setCell_same w6 w1.heap.size 1 _ _ (.slice A6 ((stC4 l.shows.length l.steps i m k e).length + 1) c6) hb6
                      rw [h9] at hb2
                      injection hb2 with hb2
                      injection hb2 with hb2 _
                      simp at hb2
                      rw [← hb2.2] at e2
                      rcases hm6 _ e2 with h | h
                      · exact HAP.out h
                      · omega)
                    clear ho6 hk6 hm6 hb6 z0 z1 z2 z3 y0 y1 y2 y3
                    go_wp2_with fail
                    go_roundw
                    case rel => exact ⟨e + 1, by omega, by go_num, by rw [HNE.out]; exact HP7.out, HBX7.out, HAP7.out⟩
                    case measure => simp [intOf]; omega
                  · obtain rfl : e = (waysR l.shows.length l.steps zn).length := by omega
                    rw [HAL.out] at hp
                    have HP := Lib.hid hp
                    clear hp hbx g1 hap
                    go_wp2_with fail
                    go_roundw
                    case rel => exact ⟨k + 1, by omega, by go_num, HP.out⟩
                    case measure => simp [intOf]; omega
            · obtain rfl : k = l.steps.length := by omega
              rw [HBALL.out] at hp
              have HP := Lib.hid hp
              clear hp hd0 x0 x1
              go_wp2_with fail
              go_roundw
              case rel => exact ⟨m + 1, by omega, by go_num, HP.out⟩
              case measure => simp [intOf]; omega
        · obtain rfl : m = (waysR l.shows.length l.steps i).length := by omega
          rw [stA4_all, List.take_length] at hp
          rw [List.take_length] at hmk
          rw [List.take_length]
          obtain ⟨su, tu, bb1, bb2, bb3⟩ := hp.box
          obtain ⟨vs5, t1, t2, t3, t4⟩ := bb2
          obtain ⟨AS, cS, rfl, t1⟩ := owns_form t1
          obtain ⟨AT, cT, rfl, bb3⟩ := owns_form bb3
          obtain ⟨y0, y1, y2, y3⟩ := box_two bb1
          have HP := Lib.hid hp
          have B1 := Lib.hid bb1
          have B3 := Lib.hid bb3
          have T1 := Lib.hid t1
          have T2 := Lib.hid t2
          have T3 := Lib.hid t3
          have T4 := Lib.hid t4
          have HRN := Lib.hid (rowsF_next i (progShow l.shows.length l.shows l.steps))
          have hrl := rowsF_len i (progShow l.shows.length l.shows l.steps)
          have HRL := Lib.hid hrl
          clear hp hmk hd0 bb1 bb3 t1 t2 t3 t4 hrl
          go_wp2_with (at_builtin; refine wpList_app el_ints rfl _ _ rfl w1.heap.size _ _ _ rfl T1.out [.slice AM (unionsI l.shows (waysR l.shows.length l.steps i) []).length cM] rfl rfl rfl (one1 rfl) (by rw [HRL.out]; omega) hszr ?_; intro v6 w6 ho6 hk6 hm6; obtain ⟨A6, c6, rfl, ho6⟩ := owns_form ho6; have hb6 := (hk6.block w1.heap.size (Array.getElem?_eq_some_iff.1 B1.out).1 (owns_ne T1.out B1.out (by decide))).trans B1.out; obtain ⟨z0, z1, z2, z3⟩ := box_two hb6)
          have hp7 := HP.out.row B1.out B3.out T1.out T2.out T3.out T4.out ho6 hk6
          rw [show unionsI l.shows (waysR l.shows.length l.steps i) [] = progShow l.shows.length l.shows l.steps i from rfl, HRN.out] at hp7
          have HP7 := Lib.hid hp7
          clear ho6 hk6 hm6 hb6 z0 z1 z2 z3 y0 y1 y2 y3 hp7
          go_wp2_with fail
          go_roundw
          case rel => exact ⟨i + 1, by omega, by go_num, HP7.out⟩
          case measure => simp [intOf]; omega
    · obtain rfl : i = l.shows.length := by omega
      rw [preP_all] at hp
      have hplen := preP_len HST.out hn40 (Nat.le_refl l.shows.length)
      rw [preP_all] at hplen
      obtain ⟨su, tu, bb1, bb2, bb3⟩ := hp.box
      have hks := hp.keep.size
      have hsu := bb2.rows
      obtain ⟨vs5, hv5, _, _⟩ := hsu
      obtain ⟨AS, cS, rfl, _⟩ := owns_form hv5
      obtain ⟨AT, cT, rfl, bb3⟩ := owns_form bb3
      rw [rowsF_len] at bb1 bb2
      obtain ⟨y0, y1, y2, y3⟩ := box_two bb1
      have HS := Lib.hid (sortedSteps_any _ (progSat l.shows.length l.steps) wr (by omega) (ra3_owns bb3 (by unfold maxLen; omega)))
      have HKP := Lib.hid hp.keep
      have B1 := Lib.hid bb1
      have B2 := Lib.hid bb2
      clear hp hd0 bb1 bb2 bb3 hv5 hplen x0 x1
      go_wp2_with fail
      refine HS.out.mono ?_
      rintro e w5 ⟨r5, rfl, hr5, hb5⟩
      obtain ⟨A5, c5, rfl, hr5⟩ := owns_form hr5
      have hs5 := hb5.size
      have hb55 := (hb5.block w1.heap.size (Array.getElem?_eq_some_iff.1 B1.out).1).trans B1.out
      obtain ⟨z0, z1, z2, z3⟩ := box_two hb55
      have hk5 : Below w1.heap.size w1 w5 := HKP.out.trans (hb5.mono hks)
      have htr := B2.out.below hb5 (Nat.le_refl _)
      have hrr := owns_mono hr5 hks
      have hk2 : Kept (fun q => q = w1.heap.size) w5 (w5.setCell ⟨w1.heap.size, 1, none⟩ (.slice A5 (sortT (progSat l.shows.length l.steps)).length c5)) := (Kept.refl _ _).setCell (S := fun q => q = w1.heap.size) (p := ⟨w1.heap.size, 1, none⟩) rfl _
      have h6 := heap_setCell_same w5 w1.heap.size 1 _ _ (.slice A5 (sortT (progSat l.shows.length l.steps)).length c5) hb55
      obtain ⟨p0, p1, _, _⟩ := box_two h6
      have hd6 : Below W0.heap.size W0 (w5.setCell ⟨w1.heap.size, 1, none⟩ (.slice A5 (sortT (progSat l.shows.length l.steps)).length c5)) := (HB01.out.trans (hk5.mono hs01)).setCell (p := ⟨w1.heap.size, 1, none⟩) hs01 _
      obtain ⟨r0, r1, r2, r3⟩ := box_two (HR.out _ (HB01.out.trans (hk5.mono hs01)))
      have hlab := (htr.kept_ne hk2 (fun v m xs ha g hg e => by subst e; exact owns_ne ha hb55 (by decide) hg) (fun v m xs ha g hg e => by subst e; exact owns_ne ha hb55 (by decide) hg)).rows.lab (owns_kept hrr hk2 (fun g hg e => by subst e; exact owns_ne hrr hb55 (by decide) hg))
      rw [show rowsF l.shows.length (progShow l.shows.length l.shows l.steps) = (List.range l.shows.length).map (progShow l.shows.length l.shows l.steps) from rfl] at hlab
      generalize hW6 : w5.setCell ⟨w1.heap.size, 1, none⟩ (.slice A5 (sortT (progSat l.shows.length l.steps)).length c5) = W6 at hlab hd6 p0 p1 h6
      have HW6 := Lib.hid hW6
      have hk9 : ∀ x y, Kept (fun q => q = w.heap.size + 1) W6 ((W6.setCell ⟨w.heap.size + 1, 0, none⟩ x).setCell ⟨w.heap.size + 1, 1, none⟩ y) := fun x y =>
        Kept.setCell (S := fun q => q = w.heap.size + 1) (Kept.setCell (S := fun q => q = w.heap.size + 1) (Kept.refl _ W6) (p := ⟨w.heap.size + 1, 0, none⟩) rfl x) (p := ⟨w.heap.size + 1, 1, none⟩) rfl y
      have HOW := Lib.hid (fun x y => (hlab.kept (hk9 x y) (fun q h1 h2 => by omega)).wide (T := fun b => w.heap.size ≤ b ∧ b < ((W6.setCell ⟨w.heap.size + 1, 0, none⟩ x).setCell ⟨w.heap.size + 1, 1, none⟩ y).heap.size) (fun q hq => ⟨by omega, Nat.lt_of_lt_of_le hq.2 (hk9 x y).size⟩))
      have HBE := Lib.hid (fun x y => ((HZ0.out.trans (hd6.mono hsz0)).setCell (p := ⟨w.heap.size + 1, 0, none⟩) (by dsimp only; omega) x).setCell (p := ⟨w.heap.size + 1, 1, none⟩) (by dsimp only; omega) y)
      have HCE := Lib.hid (fun x y => box_two (heap_setCell_same _ (w.heap.size + 1) 1 _ _ y (heap_setCell_same _ (w.heap.size + 1) 0 _ _ x (HR.out _ hd6))))
      clear hr5 hb5 hk5 htr hrr hk2 h6 hd6 hlab hk9 hW6 hb55 p0 p1
      go_wp2_with fail
      rw [HW6.out]
      obtain ⟨k0, k1, _, _⟩ := HCE.out (.slice AS l.shows.length cS) (.slice A5 (sortT (progSat l.shows.length l.steps)).length c5)
      refine bodyPost_ret (v := .agg #[.slice AS l.shows.length cS, .slice A5 (sortT (progSat l.shows.length l.steps)).length c5]) (by simp [results, Tryz.results100, go_sem, *]) rfl ⟨_, rfl, ?_, ?_⟩
      · exact HOW.out _ _
      · exact HBE.out _ _

end Go.Proofs.YtdgnhfhaaghoaaaGreatDoor
