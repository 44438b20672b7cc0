/- The teller's formula for two states, walked. -/
import Derived.Test.YtdgnhfhaaghoaaaGreatDoorProg
import Derived.Test.YtdgnhfhaaghoaaaGreatDoorJ23
import Derived.Test.YtdgnhfhaaghoaaaGreatDoorJ25
import Derived.Test.YtdgnhfhaaghoaaaGreatDoorJ26
set_option linter.unusedSimpArgs false
set_option linter.unusedVariables false
namespace Go.Proofs.YtdgnhfhaaghoaaaGreatDoor
open Go.RowKit

def NoLone (ss : List I3) (parts : List Int) (s t j : Nat) : Prop := ∀ q, q < j → lonelyB ss parts s t (ss.getD q (0, 0, 0)) = false
theorem noLone_next {ss : List I3} {parts : List Int} {s t j : Nat} (h : NoLone ss parts s t j) (hj : lonelyB ss parts s t (ss.getD j (0, 0, 0)) = false) : NoLone ss parts s t (j + 1) := by
  intro q hq
  rcases Nat.lt_succ_iff_lt_or_eq.1 hq with h' | h'
  · exact h q h'
  · rw [h']; exact hj
theorem noLone_all {ss : List I3} {parts : List Int} {s t : Nat} (h : NoLone ss parts s t ss.length) : lonely ss parts s t = none := by
  unfold lonely
  rw [List.find?_eq_none]
  intro x hx
  obtain ⟨q, hq, rfl⟩ := List.getElem_of_mem hx
  have := h q hq
  simp [List.getD, hq] at this
  simp [this]
theorem lone_at {ss : List I3} {parts : List Int} {s t j : Nat} (h : NoLone ss parts s t j) (hj : j < ss.length) (hl : lonelyB ss parts s t ss[j] = true) : lonely ss parts s t = some ss[j] := by
  unfold lonely
  rw [List.find?_eq_some_iff_getElem]
  refine ⟨hl, j, hj, rfl, fun q hq => ?_⟩
  have := h q hq
  simp [List.getD, show q < ss.length by omega] at this
  simp [this]
/-- The round in which two states come apart is among those that are kept. -/
theorem round_kept {l : Lab} {M k s t : Nat} (hM : IsRounds l M) (h : roundOf l s t = some k) : k ≤ M ∧ idxR (M + 1) (fun j => (partsL l j).getD s 0 != (partsL l j).getD t 0) = (k : Int) := by
  obtain ⟨h1, h2, _⟩ := round_some h
  have hk : k ≤ M := by
    refine Classical.byContradiction fun hn => ?_
    have e := parts_stay l hM.2.1 k (by omega)
    rw [e] at h1
    exact h1 (h2 M (by omega))
  refine ⟨hk, idxR_some (by omega) (fun j hj => ?_) ?_⟩
  · simpa using h2 j hj
  · simpa using h1
/-- Whether a step's end is together with one of another state's ends. -/
theorem found_iff {ss : List I3} {parts : List Int} {t : Nat} {x : I3} {n : Nat} (hz : ∀ y ∈ nextA ss (t : Int) x.2.1, ∃ j : Nat, y = (j : Int) ∧ j < n) {z : Nat} (hx : x.2.2 = (z : Int)) :
    anyR (nextA ss (t : Int) x.2.1).length (fun k => parts.getD ((nextA ss (t : Int) x.2.1).getD k 0).toNat 0 == parts.getD z 0) = (setOf ss parts (t : Int) x.2.1).contains (atP parts x.2.2) := by
  rw [Bool.eq_iff_iff]
  unfold anyR
  rw [List.any_eq_true, List.contains_iff_mem, setOf_mem]
  unfold atP
  rw [hx, Int.toNat_natCast]
  constructor
  · rintro ⟨k, hk, he⟩
    rw [List.mem_range] at hk
    rw [beq_iff_eq] at he
    have hm : (nextA ss (t : Int) x.2.1).getD k 0 ∈ nextA ss (t : Int) x.2.1 := getD_mem hk
    unfold nextA at hm
    rw [List.mem_map] at hm
    obtain ⟨u, hu, e⟩ := hm
    rw [List.mem_filter, Bool.and_eq_true, beq_iff_eq, beq_iff_eq] at hu
    refine ⟨u, hu.1, hu.2.1, hu.2.2, ?_⟩
    rw [← he, e]
    rfl
  · rintro ⟨u, hu, h1, h2, h3⟩
    have hm : u.2.2 ∈ nextA ss (t : Int) x.2.1 := by
      unfold nextA
      exact List.mem_map.2 ⟨u, List.mem_filter.2 ⟨hu, by simp [h1, h2]⟩, rfl⟩
    obtain ⟨k, hk, e⟩ := List.getElem_of_mem hm
    refine ⟨k, List.mem_range.2 hk, ?_⟩
    have e2 : (nextA ss (t : Int) x.2.1).getD k 0 = u.2.2 := by simp [List.getD, hk, e]
    rw [e2, beq_iff_eq]
    exact h3

set_option maxRecDepth 100000 in
set_option maxHeartbeats 16000000 in
theorem tell_any (l : Lab) (M : Nat) (hM : IsRounds l M) (hg : goodLab l = true) (w0 : World) (p : Nat) (hp : w0.heap.size ≤ p) (A1 D : Option Addr) (c1 d g cg : Nat)
    (hsv : RSS w0 (.slice A1 l.shows.length c1) l.shows) (htv : RA3 w0 (.slice D l.steps.length d) l.steps) (hrv : RSS w0 (.slice (some ⟨g, 0, none⟩) (M + 1) cg) (rowsTo (partsL l) (M + 1))) :
    ∀ (f s t : Nat), s < l.shows.length → t < l.shows.length → (∃ k, roundOf l s t = some k) → leftA l s t < f → ∀ w, Tlr w0 p (.slice A1 l.shows.length c1) (.slice D l.steps.length d) (.slice (some ⟨g, 0, none⟩) (M + 1) cg) false w →
      Calls Tryz.prog 56 #[.pointer (some ⟨p, 0, none⟩), .int .i64 s, .int .i64 t] w fun e w' => ∃ r, e = .returned r ∧ Kept (fun q => q = p) w w' ∧ TRes w0 p (.slice A1 l.shows.length c1) (.slice D l.steps.length d) (.slice (some ⟨g, 0, none⟩) (M + 1) cg) w w' r (apart l f s t) := by
  intro f
  induction f with
  | zero => intro s t _ _ _ h; omega
  | succ f ih =>
    intro s t hs ht hk hf w hT
    obtain ⟨k, hk⟩ := hk
    obtain ⟨hkM, hidx⟩ := round_kept hM hk
    have hn40 := (goodF_size hg).2
    have hst4 := goodF_many hg
    have hM40 := hM.1
    obtain ⟨W1, hW1⟩ : ∃ W1, W1 = (w.alloc (.cells #[.int .i64 (s : Int)] 3)).alloc (.cells #[.int .i64 (t : Int)] 3) := ⟨_, rfl⟩
    have hb1 : Below w.heap.size w W1 := by rw [hW1]; exact ((Below.refl _ _).alloc (Nat.le_refl _) _).alloc (by simp) _
    have hs1 : W1.heap.size = w.heap.size + 1 + 1 := by rw [hW1]; simp
    have bs0 : W1.heap[w.heap.size]? = some (.cells #[.int .i64 (s : Int)] 3) := by rw [hW1]; exact (heap_alloc_old _ _ (by simp)).trans (heap_alloc_new _ _)
    have bt0 : W1.heap[w.heap.size + 1]? = some (.cells #[.int .i64 (t : Int)] 3) := by rw [hW1]; exact heap_alloc2_new _ _ _
    have hT1 := hT.below hb1
    have HCB := Lib.hid (show ∀ W, Kept (fun q => q = p) W1 W → W.cell? ⟨w.heap.size, 0, none⟩ = some (.int .i64 (s : Int)) ∧ W.cell? ⟨w.heap.size + 1, 0, none⟩ = some (.int .i64 (t : Int)) from fun W hW => by
      have hlt := hT.lt
      exact ⟨cell_of_row _ _ _ _ _ _ ((hW.block _ (by omega) (by omega)).trans bs0), cell_of_row _ _ _ _ _ _ ((hW.block _ (by omega) (by omega)).trans bt0)⟩)
    have HIX : Calls Tryz.prog 125 #[.slice (some ⟨g, 0, none⟩) (M + 1) cg, .func (.func 126) #[] #[.pointer (some ⟨w.heap.size, 0, none⟩), .pointer (some ⟨w.heap.size + 1, 0, none⟩)]] W1 (fun e w' => e = .returned (.int .i64 (k : Int)) ∧ Below W1.heap.size W1 w') := by
      obtain ⟨A', c', vs, e, _, hvl, hcs, hrows⟩ := hrv
      rw [rowsTo_len] at e hvl
      injection e with e1 e2 e3
      subst e1
      subst e3
      have h := indexFuncSS_any (some ⟨g, 0, none⟩) cg vs 126 #[.pointer (some ⟨w.heap.size, 0, none⟩), .pointer (some ⟨w.heap.size + 1, 0, none⟩)] (fun j => (partsL l j).getD s 0 != (partsL l j).getD t 0) W1 (by omega) (hcs.below hT1.b) (enter_of Tryz.func126 (by kernel_rfl) rfl)
        (fun j u hu => by
          have hj := (List.getElem?_eq_some_iff.1 hu).1
          obtain ⟨B, m, e, _⟩ := hrows j u _ hu (List.getElem?_eq_getElem (by rw [rowsTo_len]; omega))
          exact ⟨B, _, m, e⟩)
        (fun j u W hu hW => by
          have hj := (List.getElem?_eq_some_iff.1 hu).1
          obtain ⟨B, m, e, _, hC⟩ := hrows j u _ hu (List.getElem?_eq_getElem (by rw [rowsTo_len]; omega))
          rw [rowsTo_at] at e hC
          rw [e, parts_len]
          obtain ⟨cs, ct⟩ := HCB.out W (Kept.of_below hW _)
          exact tell1_any B l.shows.length m w.heap.size (w.heap.size + 1) s t (partsL l j) W (parts_len l j) hn40 hs ht (hC.below (hT1.b.trans (hW.mono hT1.b.size))) cs ct)
      rw [hvl, hidx] at h
      exact h
    have HIX := Lib.hid HIX
    have HT1 := Lib.hid hT1
    have HW1 := Lib.hid hW1
    have HB1 := Lib.hid hb1
    obtain ⟨⟨t0, t1, t2, t3⟩, _⟩ := teller_cells hT1.c
    rw [hW1] at t0 t1 t2 t3
    have HIH := Lib.hid ih
    have HK := Lib.hid hk
    have HF := Lib.hid hf
    have hplt := hT.lt
    have HSV := Lib.hid hsv
    have HTV := Lib.hid htv
    have HRV := Lib.hid hrv
    have HG := Lib.hid hg
    have HMM := Lib.hid hM
    clear hT hW1 hb1 bs0 bt0 hT1 hidx ih hk hf hsv htv hrv hg hM
    go_enter Tryz.func56, Tryz.ntmps56
    go_wp2_with fail
    rw [← HW1.out]
    (with_reducible refine HIX.out.mono ?_)
    rintro e w2 ⟨rfl, hb2⟩
    have hT2 := HT1.out.below hb2
    have hk2 := Kept.of_below hb2 (fun q => q = p)
    obtain ⟨cs2, ct2⟩ := HCB.out w2 hk2
    obtain ⟨⟨u0, u1, u2, u3⟩, _⟩ := teller_cells hT2.c
    have hb02 := HB1.out.trans (hb2.mono HB1.out.size)
    have hsz2 := hb02.size
    have HT2 := Lib.hid hT2
    have HB2 := Lib.hid hb02
    have HK2 := Lib.hid hk2
    clear hT2 hk2 hb2 hb02 t0 t1 t2 t3
    cases k with
    | zero =>
      have hne : l.shows.getD s [] ≠ l.shows.getD t [] := fun e => by
        refine (round_some HK.out).1 ((parts_iff l 0 hs ht).2 ?_)
        show showB l s t = true
        unfold showB
        rw [e]
        simp
      obtain ⟨m, hm, _, _⟩ := diff_some ⟨(goodF_row HG.out hs).1, (goodF_row HG.out hs).2.1⟩ ⟨(goodF_row HG.out ht).1, (goodF_row HG.out ht).2.1⟩ hne
      have HMA := Lib.hid (marks_any w0 p A1 c1 _ _ false l s t m w2 HSV.out hn40 hs ht (fun xs hx => (goodF_rows HG.out xs hx).2) hm HT2.out)
      have HAP := Lib.hid (show apart l (f + 1) s t = some (markF (l.shows.getD s []) (l.shows.getD t [])) from by rw [apart, HK.out])
      clear hne hm
      go_wp2_with fail
      (with_reducible refine HMA.out.mono ?_)
      rintro e w3 ⟨r, rfl, hr, hb3⟩
      have HO := Lib.hid (owns_mono hr hsz2)
      have HT3 := Lib.hid (HT2.out.below hb3)
      have HK3 := Lib.hid (Kept.of_below (HB2.out.trans (hb3.mono hsz2)) (fun q => q = p))
      clear hr hb3
      go_wp2_with fail
      go_ret
      exact ⟨_, rfl, HK3.out, by rw [HAP.out]; exact ⟨HT3.out, HO.out⟩⟩
    | succ m =>
      obtain ⟨g', cg', vs, e, hmx, hvl, hcs, hrows⟩ := HRV.out
      rw [rowsTo_len] at e hvl
      injection e with e1 e2 e3
      subst e3
      subst e1
      obtain ⟨gb, go, eg, hgc⟩ := hcs.at_ (k := m) (by omega)
      cases eg
      obtain ⟨Ap, dp, eu, hmy, hAp⟩ := hrows m _ _ (List.getElem?_eq_getElem (by omega)) (List.getElem?_eq_getElem (by rw [rowsTo_len]; omega))
      rw [rowsTo_at] at eu hAp
      rw [parts_len] at eu
      have hgm := hgc m _ (List.getElem?_eq_getElem (by omega))
      rw [eu, Nat.zero_add] at hgm
      have cgm := cell_below HT2.out.b hgm (lt_of_cell hgm)
      have HAP := Lib.hid (show ∀ W, Below w0.heap.size w0 W → Cells W Ap (ints (partsL l m)) from fun W hW => hAp.below hW)
      have hmM : m + 1 ≤ M := hkM
      have em : (((m : Int) + 1) - 1) = (m : Int) := by omega
      have em0 : (((m : Int) + 1) == 0) = false := by rw [beq_eq_false_iff_ne]; omega
      obtain ⟨W3, hW3⟩ : ∃ W3, W3 = w2.alloc (.cells #[.slice Ap l.shows.length dp] 30) := ⟨_, rfl⟩
      have hb3 : Below w2.heap.size w2 W3 := by rw [hW3]; exact (Below.refl _ _).alloc (Nat.le_refl _) _
      have hs3 : W3.heap.size = w2.heap.size + 1 := by rw [hW3]; simp
      have bp3 : W3.heap[w2.heap.size]? = some (.cells #[.slice Ap l.shows.length dp] 30) := by rw [hW3]; exact heap_alloc_new _ _
      have HBP := Lib.hid (show ∀ W, Below W3.heap.size W3 W → W.cell? ⟨w2.heap.size, 0, none⟩ = some (.slice Ap l.shows.length dp) from fun W hW => cell_of_row _ _ _ _ _ _ ((hW.block _ (by omega)).trans bp3))
      have HT3 := Lib.hid (HT2.out.below hb3)
      have HK3 := Lib.hid (HK2.out.trans (Kept.of_below hb3 _))
      have HBS := Lib.hid (show ∀ W, Below W3.heap.size W3 W → W.cell? ⟨w.heap.size, 0, none⟩ = some (.int .i64 (s : Int)) ∧ W.cell? ⟨w.heap.size + 1, 0, none⟩ = some (.int .i64 (t : Int)) from fun W hW => HCB.out W (HK3.out.trans (Kept.of_below hW _)))
      have HW3 := Lib.hid hW3
      have hp0 := HT2.out.b.size
      have c1' : (w2.alloc (.cells #[.slice Ap l.shows.length dp] 30)).cell? ⟨p, 1, none⟩ = some (.slice D l.steps.length d) := by rw [← hW3]; exact (teller_cells HT3.out.c).1.2.1
      clear hgc hgm hmx hmy hvl hcs hrows eu hAp hb3 bp3 hW3
      go_wp2_with fail
      rw [← HW3.out]
      go_loopw [44] (fun i wr => ∃ j : Nat, j ≤ l.steps.length ∧ i = .int .i64 j ∧ NoLone l.steps (partsL l m) s t j ∧ Below W3.heap.size W3 wr)
        (fun i _ => l.steps.length - (intOf i).toNat)
      case atStart => exact ⟨0, Nat.zero_le _, rfl, fun q hq => by omega, Below.refl _ _⟩
      case round =>
        clear c1' cgm
        obtain ⟨j, hj, rfl, hno, hbel⟩ := hrel
        have hsz := hbel.size
        obtain ⟨b0, b1⟩ := HBS.out wr hbel
        have HNO := Lib.hid hno
        by_cases hlt : j < l.steps.length
        · obtain ⟨bD, oD, c', e, h0, h1, h2⟩ := (HTV.out.below (HT3.out.b.trans (hbel.mono HT3.out.b.size))).at_ (List.getElem?_eq_getElem hlt)
          cases e
          have hgd : l.steps.getD j (0, 0, 0) = l.steps[j] := by simp [List.getD, hlt]
          have HNX := Lib.hid (fun h => noLone_next (j := j) hno (by rw [hgd]; exact h))
          have HLO := Lib.hid (fun h => lone_at hno hlt h)
          obtain ⟨su', zn, hu, hz2, hun, hzn⟩ := goodF_steps HG.out _ (List.getElem_mem hlt)
          rw [hz2] at h2
          have HZ2 := Lib.hid hz2
          clear hz2 hu hun
          obtain ⟨W4, hW4⟩ : ∃ W4, W4 = wr.alloc (.cells #[.int .i64 l.steps[j].1, .int .i64 l.steps[j].2.1, .int .i64 (zn : Int)] 103) := ⟨_, rfl⟩
          have hb4 : Below wr.heap.size wr W4 := by rw [hW4]; exact (Below.refl _ _).alloc (Nat.le_refl _) _
          have hs4 : W4.heap.size = wr.heap.size + 1 := by rw [hW4]; simp
          have bx4 : W4.heap[wr.heap.size]? = some (.cells #[.int .i64 l.steps[j].1, .int .i64 l.steps[j].2.1, .int .i64 (zn : Int)] 103) := by rw [hW4]; exact heap_alloc_new _ _
          have HBX := Lib.hid (show ∀ W, Below W4.heap.size W4 W → W.cell? ⟨wr.heap.size, 0, none⟩ = some (.int .i64 l.steps[j].1) ∧ W.cell? ⟨wr.heap.size, 1, none⟩ = some (.int .i64 l.steps[j].2.1) ∧ W.cell? ⟨wr.heap.size, 2, none⟩ = some (.int .i64 (zn : Int)) from fun W hW => by
            have := (hW.block _ (by omega)).trans bx4
            exact ⟨cell_of_row _ _ _ _ _ _ this, cell_of_row _ _ _ _ _ _ this, cell_of_row _ _ _ _ _ _ this⟩)
          have hbel4 := hbel.trans (hb4.mono hsz)
          have HB4 := Lib.hid hbel4
          have HT4 := Lib.hid (HT3.out.below hbel4)
          obtain ⟨g0, g1, g2⟩ := HBX.out W4 (Below.refl _ _)
          obtain ⟨k0, k1⟩ := HBS.out W4 hbel4
          rw [hW4] at g0 g1 g2 k0 k1
          have HW4 := Lib.hid hW4
          have r0 : (0 : Int) ≤ (j : Int) := by omega
          have r1 : (j : Int) < (l.steps.length : Int) := by omega
          have hlone : lonelyB l.steps (partsL l m) s t l.steps[j] = ((l.steps[j].1 == (s : Int)) && !((setOf l.steps (partsL l m) (t : Int) l.steps[j].2.1).contains (atP (partsL l m) l.steps[j].2.2))) := rfl
          cases h00 : (l.steps[j].1 == (s : Int))
          · have hne : (l.steps[j].1 != (s : Int)) = true := by unfold bne; rw [h00]; rfl
            have HN2 := Lib.hid (HNX.out (by rw [hlone, h00]; rfl))
            clear hno hgd hb4 bx4 hbel4 hW4 h00 hlone hbel HZ2
            generalize l.steps[j] = x at *
            go_wp2_with fail
            go_roundw
            case rel => exact ⟨j + 1, by omega, by go_num, HN2.out, by rw [← HW4.out]; exact HB4.out⟩
            case measure => simp [intOf]; omega
          · have hne : (l.steps[j].1 != (s : Int)) = false := by unfold bne; rw [h00]; rfl
            have hnl : (nextA l.steps (t : Int) l.steps[j].2.1).length ≤ l.steps.length := nextA_all _ _ _
            have hin : ∀ y ∈ nextA l.steps (t : Int) l.steps[j].2.1, ∃ i : Nat, y = (i : Int) ∧ i < l.shows.length := fun y hy => by
              unfold nextA at hy
              rw [List.mem_map] at hy
              obtain ⟨u, hu, rfl⟩ := hy
              obtain ⟨_, i, _, h2, _, h4⟩ := goodF_steps HG.out u (List.mem_filter.1 hu).1
              exact ⟨i, h2, h4⟩
            have HIN := Lib.hid hin
            have HFND := Lib.hid (found_iff (ss := l.steps) (parts := partsL l m) (t := t) (x := l.steps[j]) hin HZ2.out)
            have HEN := Lib.hid (ends_any w0 p (.slice A1 l.shows.length c1) (.slice (some ⟨g, 0, none⟩) (M + 1) cg) (some ⟨bD, oD, none⟩) d false l.steps (t : Int) l.steps[j].2.1 W4 (by omega) HTV.out HT4.out)
            have HLON := Lib.hid hlone
            have hs44 := HB4.out.size
            clear hin hno hgd hb4 bx4 hbel4 hW4 hbel hlone
            go_wp2_with fail
            rw [← HW4.out]
            (with_reducible refine HEN.out.mono ?_)
            rintro e w5 ⟨r5, rfl, hr5, hb5⟩
            obtain ⟨A5, c5, rfl, hr5⟩ := owns_form hr5
            have hb35 := HB4.out.trans (hb5.mono hs44)
            have HW45 := Lib.hid hb5
            have hs5 := hb35.size
            have HB5 := Lib.hid hb35
            have HX5 := Lib.hid (show ∀ W, Below w5.heap.size w5 W → W.cell? ⟨w2.heap.size, 0, none⟩ = some (.slice Ap l.shows.length dp) ∧ W.cell? ⟨wr.heap.size, 2, none⟩ = some (.int .i64 (zn : Int)) from fun W hW => ⟨HBP.out W (hb35.trans (hW.mono hs5)), (HBX.out W (hb5.trans (hW.mono hb5.size))).2.2⟩)
            have HT5 := Lib.hid (HT4.out.below hb5)
            have HCF : Calls Tryz.prog 129 #[.slice A5 (nextA l.steps (t : Int) l.steps[j].2.1).length c5, .func (.func 130) #[] #[.pointer (some ⟨w2.heap.size, 0, none⟩), .pointer (some ⟨wr.heap.size, 0, none⟩)]] w5 (fun e w' => e = .returned (.bool ((setOf l.steps (partsL l m) (t : Int) l.steps[j].2.1).contains (atP (partsL l m) l.steps[j].2.2))) ∧ Below w5.heap.size w5 w') := by
              rw [← HFND.out]
              refine containsFuncI_any A5 c5 (nextA l.steps (t : Int) l.steps[j].2.1) 130 _ _ w5 (by omega) (Cells.of_owns hr5) (enter_of Tryz.func130 (by kernel_rfl) rfl) (fun k W hk hW => ?_)
              obtain ⟨i, hi, hin⟩ := HIN.out _ (getD_mem hk)
              rw [hi, Int.toNat_natCast]
              obtain ⟨x1, x2⟩ := HX5.out W hW
              exact tell2_any w2.heap.size wr.heap.size Ap l.shows.length dp i zn (partsL l m) W (parts_len l m) hn40 hin hzn (HAP.out W (HT5.out.b.trans (hW.mono HT5.out.b.size))) x1 x2
            have HCF := Lib.hid HCF
            have HR5 := Lib.hid hr5
            clear hb5 hb35 hr5
            cases hc : (setOf l.steps (partsL l m) (t : Int) l.steps[j].2.1).contains (atP (partsL l m) l.steps[j].2.2)
            · have HLX := Lib.hid (HLO.out (by rw [HLON.out, h00, hc]; rfl))
              rw [hc] at HCF
              clear hc h00
              generalize l.steps[j] = x at *
              go_wp2_with fail
              (with_reducible refine HCF.out.mono ?_)
              rintro e w6 ⟨rfl, hb6⟩
              have hb36 := HB5.out.trans (hb6.mono hs5)
              have hs6 := hb36.size
              have HT6 := Lib.hid (HT3.out.below hb36)
              have HB6 := Lib.hid hb36
              have HR6 := Lib.hid (owns_below HR5.out hb6 (Nat.le_refl _))
              have hb46 := (show Below W4.heap.size W4 w5 from HW45.out).trans (hb6.mono HW45.out.size)
              obtain ⟨g0, g1, g2⟩ := HBX.out w6 hb46
              have hpw6 : p < w6.heap.size := HT6.out.lt
              have hp4 : p < W4.heap.size := HT4.out.lt
              have hwr4 : wr.heap.size ≠ p := by have := HT3.out.lt; omega
              have HCX := Lib.hid (show ∀ W, Kept (fun q => q = p) w6 W → W.cell? ⟨wr.heap.size, 1, none⟩ = some (.int .i64 x.2.1) ∧ W.cell? ⟨wr.heap.size, 2, none⟩ = some (.int .i64 (zn : Int)) from fun W hW => ⟨kept_cell hW g1 hwr4, kept_cell hW g2 hwr4⟩)
              obtain ⟨o, ho⟩ : ∃ o, o = allP (fun q => apart l f x.2.2.toNat q.toNat) (nextA l.steps (t : Int) x.2.1) := ⟨_, rfl⟩
              have HAPX := Lib.hid (show apart l (f + 1) s t = if o.isNone then none else chkF (4 :: x.2.1 :: o.getD []) from by
                rw [apart, HK.out]
                dsimp only
                rw [HLX.out, ho]
                exact bind_row _ [4, x.2.1])
              have hgl : (o.getD []).length ≤ 200 := by
                cases hoo : o with
                | none => simp
                | some g' => exact allP_len (ap := fun q => apart l f x.2.2.toNat q.toNat) (fun q a h => apart_len h) (by rw [← ho, hoo]; rfl)
              have HCALL := Lib.hid (show ∀ W, Kept (fun q => q = p) w6 W → Tlr w0 p (.slice A1 l.shows.length c1) (.slice (some ⟨bD, oD, none⟩) l.steps.length d) (.slice (some ⟨g, 0, none⟩) (M + 1) cg) false W → Calls Tryz.prog 132 #[.pointer (some ⟨p, 0, none⟩), .int .i64 (zn : Int), .slice A5 (nextA l.steps (t : Int) x.2.1).length c5] W (fun e w' => ∃ r, e = .returned r ∧ Kept (fun q => q = p) W w' ∧ TRes w0 p (.slice A1 l.shows.length c1) (.slice (some ⟨bD, oD, none⟩) l.steps.length d) (.slice (some ⟨g, 0, none⟩) (M + 1) cg) W w' r o) from fun W hW hTW => by
                rw [ho]
                refine allO_any w0 p _ _ _ hp zn (fun q => apart l f x.2.2.toNat q.toNat) (fun q a h => apart_len h) (fun q => q ∈ nextA l.steps (t : Int) x.2.1) (fun q W' hq hT' => ?_) (nextA l.steps (t : Int) x.2.1) W4.heap.size _ W (fun q hq => hq) hp4 (by omega) (owns_keptP HR6.out hp4 hW) hTW
                obtain ⟨i, hi, hin⟩ := HIN.out q hq
                have h1 := left_step HK.out HLX.out hq HZ2.out hi
                have h2 := HIH.out zn i hzn hin h1.2 (by have := h1.1; have := HF.out; omega) W' hT'
                show Calls _ _ #[_, _, .int .i64 q] W' _
                rw [hi, HZ2.out]
                exact h2)
              have H06 := Lib.hid HT6.out.b.size
              have HKW6 := Lib.hid (show Kept (fun q => q = p) w w6 from (Kept.of_below HB1.out _).trans (HK3.out.trans (Kept.of_below HB6.out _)))
              have hw6 := HKW6.out.size
              clear hb6 hb36 k0 k1 g0 g1 g2 ho hb46
              go_wp2_with fail
              refine wp_region_inv (by kernel_rfl) (fun L act W => ∃ (bb : Nat) (r v z : Value), act = ⟨#[Value.pointer (some ⟨p, 0, none⟩), Value.int IntKind.i64 (s : Int), Value.int IntKind.i64 (t : Int), undef, Value.pointer (some ⟨w.heap.size, 0, none⟩), Value.pointer (some ⟨w.heap.size + 1, 0, none⟩), bsel (L 11) (z) (u6), Value.int IntKind.i64 ((m : Int) + 1), Value.pointer (some ⟨w2.heap.size, 0, none⟩), undef, Value.pointer (some ⟨wr.heap.size, 0, none⟩), Value.slice A5 (nextA l.steps ((t : Int)) x.snd.fst).length c5, Value.pointer (some ⟨p, 0, none⟩), Value.pointer (some ⟨p, 0, none⟩), Value.pointer (some ⟨p, 2, none⟩), Value.slice (some ⟨g, 0, none⟩) (M + 1) cg, Value.func (Fn.func 126) #[] #[Value.pointer (some ⟨w.heap.size, 0, none⟩), Value.pointer (some ⟨w.heap.size + 1, 0, none⟩)], Value.int IntKind.i64 ((m : Int) + 1), Value.bool false, Value.pointer (some ⟨p, 0, none⟩), Value.pointer (some ⟨p, 0, none⟩), Value.pointer (some ⟨p, 3, none⟩), Value.bool false, Value.bool false, Value.int IntKind.i64 ((m : Int) + 1), Value.bool false, undef, undef, undef, undef, Value.pointer (some ⟨p, 0, none⟩), Value.pointer (some ⟨p, 0, none⟩), Value.pointer (some ⟨p, 2, none⟩), Value.slice (some ⟨g, 0, none⟩) (M + 1) cg, Value.int IntKind.i64 ((m : Int) + 1), Value.int IntKind.i64 (m : Int), Value.pointer (some ⟨g, m, none⟩), Value.slice Ap l.shows.length dp, Value.pointer (some ⟨p, 0, none⟩), Value.pointer (some ⟨p, 0, none⟩), Value.pointer (some ⟨p, 0, none⟩), Value.pointer (some ⟨p, 1, none⟩), Value.slice (some ⟨bD, oD, none⟩) l.steps.length d, Value.int IntKind.i64 (l.steps.length : Int), Value.int IntKind.i64 (j : Int), Value.bool true, Value.pointer (some ⟨bD, oD + j * 3, none⟩), Value.agg #[Value.int IntKind.i64 x.fst, Value.int IntKind.i64 x.snd.fst, Value.int IntKind.i64 (zn : Int)], Value.pointer (some ⟨wr.heap.size, 0, none⟩), Value.int IntKind.i64 x.fst, Value.int IntKind.i64 (s : Int), Value.bool false, Value.pointer (some ⟨p, 0, none⟩), Value.int IntKind.i64 (t : Int), Value.pointer (some ⟨wr.heap.size, 1, none⟩), Value.int IntKind.i64 x.snd.fst, Value.slice A5 (nextA l.steps ((t : Int)) x.snd.fst).length c5, Value.slice A5 (nextA l.steps ((t : Int)) x.snd.fst).length c5, Value.func (Fn.func 130) #[] #[Value.pointer (some ⟨w2.heap.size, 0, none⟩), Value.pointer (some ⟨wr.heap.size, 0, none⟩)], Value.bool false, Value.bool true, bsel (L 0) (.pointer (some ⟨p, 0, none⟩)) (u61), bsel (L 1) (.pointer (some ⟨wr.heap.size, 1, none⟩)) (u62), bsel (L 2) (.int .i64 x.2.1) (u63), bsel (L 3) (.slice (some ⟨bb, 0, none⟩) 2 2) (u64), bsel (L 4) (.pointer (some ⟨p, 0, none⟩)) (u65), bsel (L 5) (.pointer (some ⟨wr.heap.size, 2, none⟩)) (u66), bsel (L 6) (.int .i64 (zn : Int)) (u67), bsel (L 7) (.slice A5 (nextA l.steps (t : Int) x.2.1).length c5) (u68), bsel (L 8) (r) (u69), bsel (L 9) (v) (u70), bsel (L 10) (z) (u71), u72, undef, undef, undef, undef, undef, undef, undef, undef], []⟩ ∧ (L 11 = true → L 10 = true) ∧ TF w0 w6 p (.slice A1 l.shows.length c1) (.slice (some ⟨bD, oD, none⟩) l.steps.length d) (.slice (some ⟨g, 0, none⟩) (M + 1) cg) o.isNone x.2.1 (o.getD []) (if o.isNone then none else chkF (4 :: x.2.1 :: o.getD [])) (L 3) (L 8) (L 9) (L 10) bb r v z W) ?h0 ?step ?fin
              case h0 => exact ⟨0, .bool false, .bool false, .bool false, rfl, fun h => absurd h Bool.false_ne_true, TF.start HT6.out _ _ _ _⟩
              case step =>
                intro L act W q o hJ hL ho hd K3 hK3
                obtain ⟨bb, r, v, z, rfl, hI, hF⟩ := hJ
                match q, ho with
                | 0, ho =>
                  simp only [List.getElem?_toArray, List.getElem?_cons_zero, List.getElem?_cons_succ, Option.some.injEq] at ho
                  subst ho
                  simp [Region.binds] at hd
                  try simp only [hd, bsel_t]
                  have HF := Lib.hid hF
                  clear hF
                  go_simp
                  exact hK3 _ _ ⟨bb, r, v, z, by simp [upd, bsel], by simpa [upd] using hI, HF.out⟩
                | 1, ho =>
                  simp only [List.getElem?_toArray, List.getElem?_cons_zero, List.getElem?_cons_succ, Option.some.injEq] at ho
                  subst ho
                  simp [Region.binds] at hd
                  try simp only [hd, bsel_t]
                  have HF := Lib.hid hF
                  clear hF
                  go_simp
                  exact hK3 _ _ ⟨bb, r, v, z, by simp [upd, bsel], by simpa [upd] using hI, HF.out⟩
                | 2, ho =>
                  simp only [List.getElem?_toArray, List.getElem?_cons_zero, List.getElem?_cons_succ, Option.some.injEq] at ho
                  subst ho
                  simp [Region.binds] at hd
                  obtain ⟨cc, _⟩ := HCX.out W hF.k
                  try simp only [hd, bsel_t]
                  have HF := Lib.hid hF
                  clear hF
                  go_simp
                  exact hK3 _ _ ⟨bb, r, v, z, by simp [upd, bsel, hd], by simpa [upd] using hI, HF.out⟩
                | 3, ho =>
                  simp only [List.getElem?_toArray, List.getElem?_cons_zero, List.getElem?_cons_succ, Option.some.injEq] at ho
                  subst ho
                  simp [Region.binds] at hd
                  rw [hL] at hF
                  simp only [hd, bsel_t]
                  have HF := Lib.hid hF.build
                  clear hF
                  go_simp
                  exact hK3 _ _ ⟨W.heap.size, r, v, z, by simp [upd, bsel, hd], by simpa [upd] using hI, by simpa [upd, hd] using HF.out⟩
                | 4, ho =>
                  simp only [List.getElem?_toArray, List.getElem?_cons_zero, List.getElem?_cons_succ, Option.some.injEq] at ho
                  subst ho
                  simp [Region.binds] at hd
                  try simp only [hd, bsel_t]
                  have HF := Lib.hid hF
                  clear hF
                  go_simp
                  exact hK3 _ _ ⟨bb, r, v, z, by simp [upd, bsel], by simpa [upd] using hI, HF.out⟩
                | 5, ho =>
                  simp only [List.getElem?_toArray, List.getElem?_cons_zero, List.getElem?_cons_succ, Option.some.injEq] at ho
                  subst ho
                  simp [Region.binds] at hd
                  try simp only [hd, bsel_t]
                  have HF := Lib.hid hF
                  clear hF
                  go_simp
                  exact hK3 _ _ ⟨bb, r, v, z, by simp [upd, bsel, hd], by simpa [upd] using hI, HF.out⟩
                | 6, ho =>
                  simp only [List.getElem?_toArray, List.getElem?_cons_zero, List.getElem?_cons_succ, Option.some.injEq] at ho
                  subst ho
                  simp [Region.binds] at hd
                  obtain ⟨_, cc⟩ := HCX.out W hF.k
                  try simp only [hd, bsel_t]
                  have HF := Lib.hid hF
                  clear hF
                  go_simp
                  exact hK3 _ _ ⟨bb, r, v, z, by simp [upd, bsel, hd], by simpa [upd] using hI, HF.out⟩
                | 7, ho =>
                  simp only [List.getElem?_toArray, List.getElem?_cons_zero, List.getElem?_cons_succ, Option.some.injEq] at ho
                  subst ho
                  simp [Region.binds] at hd
                  try simp only [hd, bsel_t]
                  have HF := Lib.hid hF
                  clear hF
                  go_simp
                  exact hK3 _ _ ⟨bb, r, v, z, by simp [upd, bsel], by simpa [upd] using hI, HF.out⟩
                | 8, ho =>
                  simp only [List.getElem?_toArray, List.getElem?_cons_zero, List.getElem?_cons_succ, Option.some.injEq] at ho
                  subst ho
                  simp [Region.binds] at hd
                  rw [hL] at hF
                  simp only [hd, bsel_t]
                  have HF := Lib.hid hF
                  clear hF
                  go_simp
                  go_at_call 132
                  (with_reducible refine (HCALL.out W HF.out.k HF.out.tlr0).mono ?_)
                  rintro e W' ⟨r', rfl, hk, hr⟩
                  have HF := Lib.hid (HF.out.called hpw6 hk hr)
                  clear hk hr
                  go_simp
                  exact hK3 _ _ ⟨bb, r', v, z, by simp [upd, bsel, hd], by simpa [upd] using hI, by simpa [upd, hd] using HF.out⟩
                | 9, ho =>
                  simp only [List.getElem?_toArray, List.getElem?_cons_zero, List.getElem?_cons_succ, Option.some.injEq] at ho
                  subst ho
                  simp [Region.binds] at hd
                  obtain ⟨d3, d8⟩ : L 3 = true ∧ L 8 = true := by simp [hd]
                  rw [d3, d8, hL] at hF
                  simp only [hd, bsel_t]
                  have HF := Lib.hid hF
                  clear hF
                  refine step_append_row rfl (.tmp 64) (.tmp 69) rfl w6.heap.size w6.heap.size (.slice (some ⟨bb, 0, none⟩) 2 2) 2 [.int .i64 4, .int .i64 x.2.1] (by rfl) (HF.out.h3 rfl rfl) r _ (ints (o.getD [])) (by rfl) (HF.out.h8 rfl rfl) (ints_one _) (by omega) HF.out.k.size ?_
                  intro v' W' ho hk
                  have HF := Lib.hid (HF.out.appended hpw6 H06.out ho hk)
                  clear ho hk
                  go_simp
                  exact hK3 _ _ ⟨bb, r, v', z, by simp [upd, bsel, hd], by simpa [upd] using hI, by simpa [upd, hd] using HF.out⟩
                | 10, ho =>
                  simp only [List.getElem?_toArray, List.getElem?_cons_zero, List.getElem?_cons_succ, Option.some.injEq] at ho
                  subst ho
                  simp [Region.binds] at hd
                  have hz : L 11 = false := by
                    cases e : L 11
                    · rfl
                    · exact absurd (hI e) (by simp [hL])
                  have d9 : L 9 = true := by simp [hd]
                  rw [d9, hL] at hF
                  obtain ⟨A9, c9, rfl, h9⟩ := owns_form (hF.h9 rfl rfl)
                  have hT := hF.t rfl
                  rw [(hF.o1 rfl).2, Bool.true_and] at hT
                  have hck := checked_any w0 p (.slice A1 l.shows.length c1) (.slice (some ⟨bD, oD, none⟩) l.steps.length d) (.slice (some ⟨g, 0, none⟩) (M + 1) cg) hp w6 W A9 (4 :: x.2.1 :: o.getD []) c9 o.isNone hT hpw6 (by simp; omega) h9
                  rw [show (4 :: x.2.1 :: o.getD []).length = (o.getD []).length + 1 + 1 from rfl] at hck
                  have HCK := Lib.hid hck
                  clear hck
                  clear h9 hT
                  simp only [hd, bsel_t]
                  have HF := Lib.hid hF
                  clear hF
                  go_simp
                  go_at_call 131
                  (with_reducible refine HCK.out.mono ?_)
                  rintro e W' ⟨z', rfl, hk, hr⟩
                  have HF := Lib.hid (HF.out.checked hk hr)
                  clear hk hr HCK
                  go_simp
                  exact hK3 _ _ ⟨bb, r, .slice A9 (4 :: x.2.1 :: o.getD []).length c9, z', by simp [upd, bsel, hd, hz], by simp [upd], by simpa [upd, hd] using HF.out⟩
                | 11, ho =>
                  simp only [List.getElem?_toArray, List.getElem?_cons_zero, List.getElem?_cons_succ, Option.some.injEq] at ho
                  subst ho
                  simp [Region.binds] at hd
                  try simp only [hd, bsel_t]
                  have HF := Lib.hid hF
                  clear hF
                  go_simp
                  exact hK3 _ _ ⟨bb, r, v, z, by simp [upd, bsel, hd], by simp [upd, hd], HF.out⟩
                | q + 12, ho => simp at ho
              case fin =>
                intro L act W hJ hfin
                obtain ⟨bb, r, v, z, rfl, hI, hF⟩ := hJ
                have l0 : L 0 = true := by
                  cases e : L 0
                  · have x := hfin 0 _ rfl e
                    simp [Region.binds] at x
                  · rfl
                have l1 : L 1 = true := by
                  cases e : L 1
                  · have x := hfin 1 _ rfl e
                    simp [Region.binds, l0] at x
                  · rfl
                have l2 : L 2 = true := by
                  cases e : L 2
                  · have x := hfin 2 _ rfl e
                    simp [Region.binds, l0, l1] at x
                  · rfl
                have l3 : L 3 = true := by
                  cases e : L 3
                  · have x := hfin 3 _ rfl e
                    simp [Region.binds, l0, l1, l2] at x
                  · rfl
                have l4 : L 4 = true := by
                  cases e : L 4
                  · have x := hfin 4 _ rfl e
                    simp [Region.binds, l0, l1, l2, l3] at x
                  · rfl
                have l5 : L 5 = true := by
                  cases e : L 5
                  · have x := hfin 5 _ rfl e
                    simp [Region.binds, l0, l1, l2, l3, l4] at x
                  · rfl
                have l6 : L 6 = true := by
                  cases e : L 6
                  · have x := hfin 6 _ rfl e
                    simp [Region.binds, l0, l1, l2, l3, l4, l5] at x
                  · rfl
                have l7 : L 7 = true := by
                  cases e : L 7
                  · have x := hfin 7 _ rfl e
                    simp [Region.binds, l0, l1, l2, l3, l4, l5, l6] at x
                  · rfl
                have l8 : L 8 = true := by
                  cases e : L 8
                  · have x := hfin 8 _ rfl e
                    simp [Region.binds, l0, l1, l2, l3, l4, l5, l6, l7] at x
                  · rfl
                have l9 : L 9 = true := by
                  cases e : L 9
                  · have x := hfin 9 _ rfl e
                    simp [Region.binds, l0, l1, l2, l3, l4, l5, l6, l7, l8] at x
                  · rfl
                have l10 : L 10 = true := by
                  cases e : L 10
                  · have x := hfin 10 _ rfl e
                    simp [Region.binds, l0, l1, l2, l3, l4, l5, l6, l7, l8, l9] at x
                  · rfl
                have l11 : L 11 = true := by
                  cases e : L 11
                  · have x := hfin 11 _ rfl e
                    simp [Region.binds, l0, l1, l2, l3, l4, l5, l6, l7, l8, l9, l10] at x
                  · rfl
                simp only [l0, l1, l2, l3, l4, l5, l6, l7, l8, l9, l10, l11, bsel_t]
                have h10 := hF.h10 l10
                have hk := hF.k
                have HR := Lib.hid h10
                have HK6 := Lib.hid (HKW6.out.trans hk)
                clear hF hfin hI h10 hk l0 l1 l2 l3 l4 l5 l6 l7 l8 l9 l10 l11
                go_wp2_with fail
                go_ret
                exact ⟨_, rfl, HK6.out, by rw [HAPX.out]; exact tres_mono HR.out hw6⟩
            · have HN2 := Lib.hid (HNX.out (by rw [HLON.out, h00, hc]; rfl))
              rw [hc] at HCF
              clear hc h00
              generalize l.steps[j] = x at *
              go_wp2_with fail
              (with_reducible refine HCF.out.mono ?_)
              rintro e w6 ⟨rfl, hb6⟩
              have HB6 := Lib.hid (HB5.out.trans (hb6.mono hs5))
              clear hb6
              go_wp2_with fail
              go_roundw
              case rel => exact ⟨j + 1, by omega, by go_num, HN2.out, HB6.out⟩
              case measure => simp [intOf]; omega
        · obtain rfl : j = l.steps.length := by omega
          have hnone := noLone_all hno
          have hflip := left_flip hs ht HK.out hnone
          have HAP1 := Lib.hid (show apart l (f + 1) s t = (apart l f t s).bind fun g => chkF (2 :: g) from by rw [apart, HK.out]; dsimp only; rw [hnone])
          have hT3r := HT3.out.below hbel
          obtain ⟨W4, hW4⟩ : ∃ W4, W4 = wr.alloc (.cells #[.int .i64 2] 3) := ⟨_, rfl⟩
          have hb4 : Below wr.heap.size wr W4 := by rw [hW4]; exact (Below.refl _ _).alloc (Nat.le_refl _) _
          have ho4 : W4.ownsRow wr.heap.size 3 1 (.slice (some ⟨wr.heap.size, 0, none⟩) 1 1) 1 [.int .i64 2] := by rw [hW4]; exact ownsRow_lit (xs := [.int .i64 2]) (heap_alloc_new _ _) rfl (by unfold maxLen; omega)
          have hk3 : Kept (fun q => q = p) w wr := (Kept.of_below HB1.out _).trans (HK3.out.trans (Kept.of_below hbel _))
          have hk4 := hk3.trans (Kept.of_below hb4 (fun q => q = p))
          have HC4 := Lib.hid (HIH.out t s ht hs ⟨m + 1, by rw [← round_symm]; exact HK.out⟩ (by have := HF.out; omega) W4 (hT3r.below hb4))
          obtain ⟨k0, k1⟩ := HBS.out W4 (hbel.trans (hb4.mono hsz))
          rw [hW4] at k0 k1
          have HW4 := Lib.hid hW4
          have HK4 := Lib.hid hk4
          have HO4 := Lib.hid ho4
          have hs4 := hb4.size
          have hsw := hk3.size
          clear hno hnone hflip hT3r hW4 hb4 ho4 hk3 hk4 hbel
          go_wp2_with fail
          rw [← HW4.out]
          (with_reducible refine HC4.out.mono ?_)
          rintro e w5 ⟨r5, rfl, hk5, hr5⟩
          have HK5 := Lib.hid (HK4.out.trans hk5)
          have HO5 := Lib.hid (owns_keptP HO4.out (by omega) hk5)
          have hs5 := hk5.size
          clear hk5
          cases hap : apart l f t s with
          | none =>
            rw [hap] at hr5 HAP1
            obtain ⟨hT5, rfl⟩ := hr5
            have HT5 := Lib.hid hT5
            clear hap hT5
            go_wp2_with (at_builtin; refine wpList_append_row rfl _ _ rfl wr.heap.size w5.heap.size _ _ _ rfl HO5.out _ 0 [] rfl (World.ownsRow_nil _ _ _ _) (fun y hy => by simp at hy) (by omega) (by omega) ?_; intro v6 w6 ho6 hk6)
            obtain ⟨A6, c6, rfl, ho6⟩ := owns_form ho6
            have hT6 := HT5.out.keptS hk6 (fun q hq => by have := (HO5.out.lt q hq).1; omega) (fun e => by have := (HO5.out.lt p e).1; omega)
            have HCK := Lib.hid (checked_bad w0 p _ _ _ A6 1 c6 w6 hT6)
            have HT7 := Lib.hid (hT6.set hp true)
            have HK7 := Lib.hid ((HK5.out.newer hk6 (fun q hq => by have := (HO5.out.lt q hq).1; omega)).trans (hT6.kept hp true))
            clear ho6 hk6 hT6
            go_wp2_with fail
            (with_reducible refine HCK.out.mono ?_)
            rintro e w7 ⟨rfl, rfl⟩
            go_wp2_with fail
            go_ret
            exact ⟨_, rfl, HK7.out, by rw [HAP1.out]; exact ⟨HT7.out, rfl⟩⟩
          | some g0 =>
            rw [hap] at hr5 HAP1
            obtain ⟨hT5, hr5⟩ := hr5
            have hgl := apart_len hap
            have HT5 := Lib.hid hT5
            have HR5 := Lib.hid hr5
            obtain ⟨A5, c5, rfl, _⟩ := owns_form hr5
            clear hap hT5 hr5
            go_wp2_with (at_builtin; refine wpList_append_row rfl _ _ rfl wr.heap.size W4.heap.size _ _ _ rfl HO5.out _ _ _ rfl HR5.out (ints_one _) (by omega) (by omega) ?_; intro v6 w6 ho6 hk6)
            obtain ⟨A6, c6, rfl, ho6⟩ := owns_form ho6
            have hT6 := HT5.out.keptS hk6 (fun q hq => by have := (HO5.out.lt q hq).1; omega) (fun e => by have := (HO5.out.lt p e).1; omega)
            have hk6' := HK5.out.newer hk6 (fun q hq => by have := (HO5.out.lt q hq).1; omega)
            have ho6' : w6.ownsRow w.heap.size 3 1 (.slice A6 (2 :: g0).length c6) (2 :: g0).length (ints (2 :: g0)) := by
              have e1 : (2 :: g0).length = 1 + g0.length := by rw [List.length_cons]; omega
              have e2 : ints (2 :: g0) = [.int .i64 2] ++ ints g0 := by simp [ints]
              rw [e1, e2]
              exact owns_mono ho6 hsw
            have hnl : 1 + g0.length = (2 :: g0).length := by rw [List.length_cons]; omega
            have hzl : (2 :: g0).length ≤ 500 := by rw [List.length_cons]; omega
            rw [hnl]
            clear ho6 hnl
            have HAP2 := Lib.hid (show apart l (f + 1) s t = chkF (2 :: g0) from HAP1.out)
            generalize h2 : (2 : Int) :: g0 = z at *
            clear h2
            by_cases hz : z.length ≤ 200
            · have HCK := Lib.hid (checked_ok w0 p _ _ _ A6 z.length c6 w6 hz hT6)
              have HFZ := Lib.hid (show chkF z = some z from by unfold chkF; rw [if_pos hz])
              have HT7 := Lib.hid (hT6.set hp false)
              have HK7 := Lib.hid (hk6'.trans (hT6.kept hp false))
              have HO7 := Lib.hid (owns_keptP ho6' hplt (hT6.kept hp false))
              clear ho6' hk6 hT6 hk6' hz
              go_wp2_with fail
              (with_reducible refine HCK.out.mono ?_)
              rintro e w7 ⟨rfl, rfl⟩
              go_wp2_with fail
              go_ret
              exact ⟨_, rfl, HK7.out, by rw [HAP2.out, HFZ.out]; exact ⟨HT7.out, HO7.out⟩⟩
            · have HCK := Lib.hid (checked_long w0 p _ _ _ A6 z.length c6 w6 (by omega) (by omega) hT6)
              have HFZ := Lib.hid (show chkF z = none from by unfold chkF; rw [if_neg hz])
              have HT7 := Lib.hid (hT6.set hp true)
              have HK7 := Lib.hid (hk6'.trans (hT6.kept hp true))
              clear ho6' hk6 hT6 hk6' hz
              go_wp2_with fail
              (with_reducible refine HCK.out.mono ?_)
              rintro e w7 ⟨rfl, rfl⟩
              go_wp2_with fail
              go_ret
              exact ⟨_, rfl, HK7.out, by rw [HAP2.out, HFZ.out]; exact ⟨HT7.out, rfl⟩⟩

end Go.Proofs.YtdgnhfhaaghoaaaGreatDoor
