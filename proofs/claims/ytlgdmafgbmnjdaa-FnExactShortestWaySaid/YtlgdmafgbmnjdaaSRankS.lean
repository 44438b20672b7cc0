/- Systems: rankings asked for, the reference walked. -/
import Derived.Test.YtlgdmafgbmnjdaaProg
import Derived.Test.YtlgdmafgbmnjdaaSRank
set_option linter.unusedVariables false
namespace Go.Proofs.Ytlgdmafgbmnjdaa
open Go.RowKit
open Go.Sort (grow)

theorem from_len_next (l : List I3) (p : Int) : (fromL l p).length = (nextL l p).length := by rw [← from_next, List.length_map]
theorem from_at (l : List I3) (p : Int) {q : Nat} (h : q < (fromL l p).length) : (fromL l p)[q].2.2 = (nextL l p).getD q 0 := by
  have h2 : q < (nextL l p).length := by rw [← from_len_next]; exact h
  have e : (nextL l p)[q]? = ((fromL l p).map (fun s => s.2.2))[q]? := by rw [from_next]
  rw [List.getElem?_map, List.getElem?_eq_getElem h, List.getElem?_eq_getElem h2] at e
  simp only [Option.map_some, Option.some.injEq] at e
  simp [List.getD, h2, e]

set_option maxRecDepth 100000 in
set_option maxHeartbeats 16000000 in
theorem l10Ranking_any (v : Value) (l : Sys) (G : Option Addr) (cg : Nat) (g : List Int) (R : Option Addr) (cr : Nat) (r : List Int) (w : World) (hs : SmallSys l) (hgood : goodSys l = true) (hv : RSys w v l) (hgn : g.length ≤ 16777216) (hG : Cells w G (ints g)) (hrn : r.length ≤ 16777216) (hR : Cells w R (ints r)) :
    Calls Try.prog 36 #[v, .slice G g.length cg, .slice R r.length cr] w fun e w' => e = .returned (.bool (rkB l g r)) ∧ Below w.heap.size w w' := by
  have HV := Lib.hid (show ∀ W, Below w.heap.size w W → RSys W v l from fun W hb => hv.below hb)
  have HG := Lib.hid (show ∀ W, Below w.heap.size w W → Cells W G (ints g) from fun W hb => hG.below hb)
  have HR := Lib.hid (show ∀ W, Below w.heap.size w W → Cells W R (ints r) from fun W hb => hR.below hb)
  obtain ⟨sv, tv, rfl, hsv, htv⟩ := hv
  obtain ⟨A, c, rfl, _⟩ := hsv.form
  obtain ⟨B, d, rfl, _, _⟩ := htv
  have hsn := hs.1
  have hsn2 := hs.2
  obtain ⟨l1, l2⟩ := good_len hgood
  have HST := Lib.hid (show StepsN l.states.length l.steps from good_steps hgood)
  have HB := Lib.hid (show Below w.heap.size w (w.alloc (.cells #[.slice A l.states.length c, .slice B l.steps.length d] 32)) from (Below.refl _ _).alloc (Nat.le_refl _) _)
  clear hsv hG hR hgood
  by_cases hl : r.length = l.states.length
  case neg =>
    have e1 : ((r.length : Int) != (l.states.length : Int)) = true := by rw [bne_iff_ne]; omega
    have e2 : ((r.length : Int) == (l.states.length : Int)) = false := by rw [beq_eq_false_iff_ne]; omega
    have E1 := Lib.hid (rkB_len (g := g) hl)
    clear hl
    go_enter Try.func36, Try.ntmps36
    go_wp2_with fail
    go_ret
    exact ⟨by rw [E1.out]; rfl, HB.out⟩
  have e1 : ((r.length : Int) != (l.states.length : Int)) = false := by rw [bne_eq_false_iff_eq]; omega
  have e2 : ((r.length : Int) == (l.states.length : Int)) = true := by rw [beq_iff_eq]; omega
  have HL := Lib.hid hl
  clear hl
  go_enter Try.func36, Try.ntmps36
  go_wp2_with fail
  go_loopw [7] (fun i wr => ∃ k : Nat, k ≤ r.length ∧ i = .int .i64 k ∧ (∀ j, j < k → lowB r j = true ∧ rkAtB l g r j = true) ∧ Below w.heap.size w wr ∧ wr.heap[w.heap.size]? = some (.cells #[.slice A l.states.length c, .slice B l.steps.length d] 32))
    (fun i _ => r.length - (intOf i).toNat)
  case atStart => exact ⟨0, Nat.zero_le _, rfl, fun j hj => by omega, HB.out, heap_alloc_new _ _⟩
  case round =>
    obtain ⟨k, hk, rfl, hall, hbel, hbx⟩ := hrel
    have HALL := Lib.hid hall
    clear hall
    by_cases hlt : k < r.length
    · obtain ⟨rb, ro, e, hc⟩ := (HR.out wr hbel).int hlt
      cases e
      have ck := hc k hlt
      have HN := Lib.hid (show lowB r k = true → rkAtB l g r k = true → ∀ j, j < k + 1 → lowB r j = true ∧ rkAtB l g r j = true from fun h1 h2 j hj => by
        rcases Nat.lt_succ_iff_lt_or_eq.1 hj with h' | h'
        · exact HALL.out j h'
        · rw [h']; exact ⟨h1, h2⟩)
      have p0 := cell_of_row wr w.heap.size 0 _ _ _ hbx
      have p1 := cell_of_row wr w.heap.size 1 _ _ _ hbx
      have HBEL := Lib.hid hbel
      have HBX := Lib.hid hbx
      generalize hx : r.getD k 0 = x at *
      have HX := Lib.hid hx
      have b0 : (0 : Int) ≤ (k : Int) := by omega
      have b1 : (k : Int) < (r.length : Int) := by omega
      clear hc hbel hbx hx
      by_cases hxl : x < -1
      · have E1 := Lib.hid (rkB_lowat (l := l) (g := g) hlt (show lowB r k = false by unfold lowB; rw [HX.out, decide_eq_true hxl]; rfl))
        go_wp2_with fail
        go_ret
        exact ⟨by rw [E1.out]; rfl, HBEL.out⟩
      have HLO := Lib.hid (show lowB r k = true by unfold lowB; rw [HX.out, decide_eq_false hxl]; rfl)
      by_cases hx0 : x < 0
      · have HT := Lib.hid (HN.out HLO.out (rkAt_neg HX.out hx0))
        go_wp2_with fail
        go_roundw
        case rel => exact ⟨k + 1, by omega, by go_num, HT.out, HBEL.out, HBX.out⟩
        case measure => simp [intOf]; omega
      have HCO := Lib.hid (l1Has_any G cg g (k : Int) wr hgn (HG.out _ HBEL.out))
      cases hgk : hasI g (k : Int)
      case true =>
        have HT := Lib.hid (HN.out HLO.out (rkAt_has hgk))
        rw [hgk] at HCO
        clear hgk
        go_wp2_with ((with_reducible refine HCO.out.mono ?_); rintro e wc ⟨rfl, rfl⟩)
        go_roundw
        case rel => exact ⟨k + 1, by omega, by go_num, HT.out, HBEL.out, HBX.out⟩
        case measure => simp [intOf]; omega
      have HFR := Lib.hid (rkAt_step (l := l) HX.out hx0 hgk)
      rw [hgk] at HCO
      clear hgk
      go_wp2_with ((with_reducible refine HCO.out.mono ?_); rintro e wc ⟨rfl, rfl⟩)
      refine (l10From_any _ l (k : Int) _ hs (HV.out _ HBEL.out)).mono ?_
      rintro e w3 ⟨nv, rfl, hnv, hw3⟩
      obtain ⟨NA, nc, rfl, hnv⟩ := owns_form hnv
      have hfl := from_len' l.steps (k : Int)
      have HRA := Lib.hid (owns_ra3 hnv (max_of (by omega)))
      have HB3 := Lib.hid (HBEL.out.trans (hw3.mono HBEL.out.size))
      have HBX3 := Lib.hid ((hw3.block w.heap.size (Array.getElem?_eq_some_iff.1 HBX.out).1).trans HBX.out)
      have HNX := Lib.hid (fun q (hq : q < (nextL l.steps (k : Int)).length) => next_is HST.out hq)
      have HFL := Lib.hid (from_len_next l.steps (k : Int))
      have HFA := Lib.hid (fun q h => from_at l.steps (k : Int) (q := q) h)
      clear hnv hw3 p0 p1
      generalize nextL l.steps (k : Int) = nx at *
      generalize fromL l.steps (k : Int) = fr at *
      go_wp2_with fail
      go_loopw [9] (fun i wi => ∃ q : Nat, q ≤ fr.length ∧ i = .int .i64 q ∧ (∀ j, j < q → outB r x nx j = false) ∧ Below w3.heap.size w3 wi)
        (fun i _ => fr.length - (intOf i).toNat)
      case atStart => exact ⟨0, Nat.zero_le _, rfl, fun j hj => by omega, Below.refl _ _⟩
      case round =>
        obtain ⟨q, hq, rfl, hall, hbq⟩ := hrel
        obtain ⟨wi, hwi⟩ : ∃ wi, wi = wr := ⟨_, rfl⟩
        have HALL2 := Lib.hid hall
        clear hall
        by_cases hqt : q < fr.length
        · obtain ⟨fb, fo, fc, e, h0, h1, h2⟩ := (HRA.out.below hbq).at_ (List.getElem?_eq_getElem hqt)
          cases e
          have hqn : q < nx.length := by rw [← HFL.out]; exact hqt
          obtain ⟨j, ej, hj⟩ := HNX.out q hqn
          rw [HFA.out q hqt, ej] at h2
          have hjr : j < r.length := by have := HL.out; omega
          obtain ⟨rb', ro', e, hc⟩ := (HR.out _ (HB3.out.trans (hbq.mono HB3.out.size))).int hjr
          cases e
          have cj := hc j hjr
          have ck := hc k hlt
          rw [HX.out] at ck
          have HOB := Lib.hid (show outB r x nx q = !inB (r.getD j 0) 0 (pred64 x) by unfold outB atI; rw [ej, Int.toNat_natCast])
          have hwr : IntKind.i64.wrap (x - 1) = pred64 x := rfl
          generalize r.getD j 0 = y at *
          generalize pred64 x = px at *
          have b4 : (0 : Int) ≤ (j : Int) := by omega
          have b5 : (j : Int) < (r.length : Int) := by omega
          have b6 : (0 : Int) ≤ (q : Int) := by omega
          have b7 : (q : Int) < (fr.length : Int) := by omega
          have HIN := Lib.hid (fun W => l1In_q y 0 px W)
          have HBQ := Lib.hid (fun n => (show Below w3.heap.size w3 (wr.drewN n) from below_drewN' hbq n))
          clear hc h0 h1 hbq ej
          cases hin : inB y 0 px
          · have HF := Lib.hid (rkB_at hlt (show rkAtB l g r k = false by
              have : anyR nx.length (outB r x nx) = true := by unfold anyR; rw [List.any_eq_true]; exact ⟨q, List.mem_range.2 hqn, by rw [HOB.out, hin]; rfl⟩
              rw [HFR.out, this, Bool.or_true]; rfl))
            rw [hin] at HIN
            clear hin
            go_wp2_with fail
            go_quiet ((exact Calls.quiet_of_same (HIN.out _)))
            go_wp2_with fail
            go_ret
            exact ⟨by rw [HF.out]; rfl, HB3.out.trans ((HBQ.out _).mono HB3.out.size)⟩
          · have HN2 := Lib.hid (none_next HALL2.out (show outB r x nx q = false by rw [HOB.out, hin]; rfl))
            rw [hin] at HIN
            clear hin
            go_wp2_with fail
            go_quiet ((exact Calls.quiet_of_same (HIN.out _)))
            go_wp2_with fail
            go_roundw
            case rel => exact ⟨q + 1, by omega, by go_num, HN2.out, HBQ.out _⟩
            case measure => simp [intOf]; omega
        · obtain rfl : q = fr.length := by omega
          have hno : anyR nx.length (outB r x nx) = false := by
            unfold anyR
            rw [List.any_eq_false]
            intro j hj
            rw [HALL2.out j (by rw [HFL.out]; exact List.mem_range.1 hj)]
            exact Bool.false_ne_true
          have HB4 := Lib.hid (HB3.out.trans (hbq.mono HB3.out.size))
          have HBX4 := Lib.hid ((hbq.block w.heap.size (Array.getElem?_eq_some_iff.1 HBX3.out).1).trans HBX3.out)
          clear hbq
          by_cases hf0 : fr.length = 0
          · have HF := Lib.hid (rkB_at hlt (show rkAtB l g r k = false by
              have : nx = [] := List.eq_nil_of_length_eq_zero (by rw [← HFL.out]; exact hf0)
              rw [HFR.out, this]; rfl))
            have hf1 : ((fr.length : Int) == 0) = true := by rw [hf0]; rfl
            clear hno hf0
            go_wp2_with fail
            go_ret
            exact ⟨by rw [HF.out]; rfl, HB4.out⟩
          · have HT := Lib.hid (HN.out HLO.out (show rkAtB l g r k = true by
              have : nx.isEmpty = false := by
                cases nx with
                | nil => exact absurd HFL.out hf0
                | cons a b => rfl
              rw [HFR.out, hno, this]; rfl))
            have hf1 : ((fr.length : Int) == 0) = false := by rw [beq_eq_false_iff_ne]; omega
            clear hno hf0
            go_wp2_with fail
            go_roundw
            case rel => exact ⟨k + 1, by omega, by go_num, HT.out, HB4.out, HBX4.out⟩
            case measure => simp [intOf]; omega
    · obtain rfl : k = r.length := by omega
      have E1 := Lib.hid (rkB_all HL.out HALL.out)
      have HB2 := Lib.hid hbel
      clear hbel hbx
      go_wp2_with fail
      go_ret
      exact ⟨by rw [E1.out]; rfl, HB2.out⟩

set_option maxRecDepth 100000 in
set_option maxHeartbeats 16000000 in
theorem specIsRanking_any (v u1 u2 : Value) (l : Sys) (g r : List Int) (w : World) (hs : SmallSys l) (hv : RSys w v l) (hgn : g.length ≤ 16777216) (hg1 : RI w u1 g) (hrn : r.length ≤ 16777216) (hr1 : RI w u2 r) :
    Calls Try.prog 10 #[v, u1, u2] w fun e w' => e = .returned (.tuple #[.bool (rankingB l g r), .bool (okGoals l g)]) ∧ Below w.heap.size w w' := by
  have HV := Lib.hid (show ∀ W, Below w.heap.size w W → RSys W v l from fun W hb => hv.below hb)
  obtain ⟨G, cg, rfl, _, hG⟩ := hg1
  obtain ⟨R, cr, rfl, _, hR⟩ := hr1
  have HG := Lib.hid (show ∀ W, Below w.heap.size w W → Cells W G (ints g) from fun W hb => hG.below hb)
  have HR := Lib.hid (show ∀ W, Below w.heap.size w W → Cells W R (ints r) from fun W hb => hR.below hb)
  obtain ⟨sv, tv, rfl, hsv, htv⟩ := hv
  obtain ⟨A, c, rfl, _⟩ := hsv.form
  obtain ⟨B, d, rfl, _, _⟩ := htv
  have hb1 : ∀ o, Below w.heap.size w (w.alloc o) := fun o => (Below.refl _ _).alloc (Nat.le_refl _) o
  have HB := Lib.hid hb1
  have H1 := Lib.hid (fun o => l10Good_any _ l (w.alloc o) hs (HV.out _ (hb1 o)))
  clear hsv hG hR hb1
  cases hg : goodSys l
  · have E1 := Lib.hid (show rankingB l g r = false by simp [rankingB, okGoals, hg])
    have E2 := Lib.hid (show okGoals l g = false by simp [okGoals, hg])
    rw [hg] at H1
    clear hg
    go_enter Try.func10, Try.ntmps10
    go_wp2_with fail
    refine (H1.out _).mono ?_
    rintro e w1 ⟨rfl, hw1⟩
    have HZ := Lib.hid ((HB.out _).trans (hw1.mono (HB.out _).size))
    clear hw1
    go_wp2_with fail
    go_ret2
    exact ⟨by rw [E1.out, E2.out]; rfl, HZ.out⟩
  have HGD := Lib.hid hg
  rw [hg] at H1
  cases hgo : goalsB l g
  · have E1 := Lib.hid (show rankingB l g r = false by simp [rankingB, okGoals, hgo])
    have E2 := Lib.hid (show okGoals l g = false by simp [okGoals, hgo])
    clear hg
    go_enter Try.func10, Try.ntmps10
    go_wp2_with fail
    refine (H1.out _).mono ?_
    rintro e w1 ⟨rfl, hw1⟩
    have hz1 := (HB.out _).trans (hw1.mono (HB.out _).size)
    obtain ⟨bx, _⟩ := one_box hw1
    have x0 : w1.cell? ⟨w.heap.size, 0, none⟩ = some (.slice A l.states.length c) := cell_of_row _ _ _ _ _ _ bx
    have x1 : w1.cell? ⟨w.heap.size, 1, none⟩ = some (.slice B l.steps.length d) := cell_of_row _ _ _ _ _ _ bx
    have HZ1 := Lib.hid hz1
    clear hw1 bx hz1
    go_wp2_with fail
    refine (l10Goals_any _ l G cg g w1 hs (HV.out w1 HZ1.out) hgn (HG.out w1 HZ1.out)).mono ?_
    rintro e w2 ⟨rfl, hw2⟩
    rw [hgo]
    have HZ2 := Lib.hid (HZ1.out.trans (hw2.mono HZ1.out.size))
    clear hw2 x0 x1
    go_wp2_with fail
    go_ret2
    exact ⟨by rw [E1.out, E2.out]; rfl, HZ2.out⟩
  have E1 := Lib.hid (show rankingB l g r = rkB l g r by simp [rankingB, okGoals, hg, hgo])
  have E2 := Lib.hid (show okGoals l g = true by simp [okGoals, hg, hgo])
  clear hg
  go_enter Try.func10, Try.ntmps10
  go_wp2_with fail
  refine (H1.out _).mono ?_
  rintro e w1 ⟨rfl, hw1⟩
  have hz1 := (HB.out _).trans (hw1.mono (HB.out _).size)
  obtain ⟨bx, _⟩ := one_box hw1
  have x0 : w1.cell? ⟨w.heap.size, 0, none⟩ = some (.slice A l.states.length c) := cell_of_row _ _ _ _ _ _ bx
  have x1 : w1.cell? ⟨w.heap.size, 1, none⟩ = some (.slice B l.steps.length d) := cell_of_row _ _ _ _ _ _ bx
  have HZ1 := Lib.hid hz1
  clear hw1 bx hz1
  go_wp2_with fail
  refine (l10Goals_any _ l G cg g w1 hs (HV.out w1 HZ1.out) hgn (HG.out w1 HZ1.out)).mono ?_
  rintro e w2 ⟨rfl, hw2⟩
  rw [hgo]
  have x0 := cell_below hw2 x0 (lt_of_cell x0)
  have x1 := cell_below hw2 x1 (lt_of_cell x1)
  have HZ2 := Lib.hid (HZ1.out.trans (hw2.mono HZ1.out.size))
  clear hw2
  go_wp2_with fail
  refine (l10Ranking_any _ l G cg g R cr r w2 hs HGD.out (HV.out w2 HZ2.out) hgn (HG.out w2 HZ2.out) hrn (HR.out w2 HZ2.out)).mono ?_
  rintro e w3 ⟨rfl, hw3⟩
  have HZ3 := Lib.hid (HZ2.out.trans (hw3.mono HZ2.out.size))
  clear hw3
  go_wp2_with fail
  go_ret2
  exact ⟨by rw [E1.out, E2.out]; rfl, HZ3.out⟩

end Go.Proofs.Ytlgdmafgbmnjdaa
