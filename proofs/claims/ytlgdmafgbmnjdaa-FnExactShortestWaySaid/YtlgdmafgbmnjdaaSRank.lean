/- Systems: rankings asked for, program and reference walked. -/
import Derived.Test.YtlgdmafgbmnjdaaProg
import Derived.Test.YtlgdmafgbmnjdaaSGoal
import Derived.Test.YtlgdmafgbmnjdaaSFrom
import Derived.Test.YtlgdmafgbmnjdaaSRankL
set_option linter.unusedVariables false
namespace Go.Proofs.Ytlgdmafgbmnjdaa
open Go.RowKit
open Go.Sort (grow)

/-- One less, as the machine has it. -/
def pred64 (m : Int) : Int := IntKind.i64.wrap (m - 1)
def outB (r : List Int) (m : Int) (nx : List Int) (k : Nat) : Bool := !inB (atI r (nx.getD k 0)) 0 (pred64 m)
/-- What is asked of a state that is no goal and has a number. -/
def rkStep (l : Sys) (r : List Int) (i : Nat) : Bool := !((nextL l.steps i).isEmpty || anyR (nextL l.steps i).length (outB r (r.getD i 0) (nextL l.steps i)))
def rkFree (g r : List Int) (i : Nat) : Bool := decide (r.getD i 0 < 0) || hasI g i
def rkAtB (l : Sys) (g r : List Int) (i : Nat) : Bool := rkFree g r i || rkStep l r i
def lowB (r : List Int) (i : Nat) : Bool := !decide (r.getD i 0 < -1)
def rkB (l : Sys) (g r : List Int) : Bool := decide (r.length = l.states.length) && allR r.length fun i => lowB r i && rkAtB l g r i
def rankingB (l : Sys) (g r : List Int) : Bool := okGoals l g && rkB l g r

theorem rkB_len {l : Sys} {g r : List Int} (h : r.length ≠ l.states.length) : rkB l g r = false := by simp [rkB, h]
theorem rkB_low {l : Sys} {g r : List Int} {m : Int} (hm : LeastI r r.length m) (h : m < -1) : rkB l g r = false := by
  obtain ⟨_, j, hj, e⟩ := hm
  unfold rkB
  rw [Bool.and_eq_false_iff]
  refine .inr (allR_false hj ?_)
  have hx : r.getD j 0 < -1 := by omega
  simp only [lowB, hx, decide_true, Bool.not_true, Bool.false_and]
theorem rkB_at {l : Sys} {g r : List Int} {i : Nat} (hi : i < r.length) (h : rkAtB l g r i = false) : rkB l g r = false := by
  unfold rkB
  rw [Bool.and_eq_false_iff]
  exact .inr (allR_false hi (by rw [h, Bool.and_false]))
theorem rkB_lowat {l : Sys} {g r : List Int} {i : Nat} (hi : i < r.length) (h : lowB r i = false) : rkB l g r = false := by
  unfold rkB
  rw [Bool.and_eq_false_iff]
  exact .inr (allR_false hi (by rw [h, Bool.false_and]))
theorem rkB_all {l : Sys} {g r : List Int} (hl : r.length = l.states.length) (h : ∀ i, i < r.length → lowB r i = true ∧ rkAtB l g r i = true) : rkB l g r = true := by
  unfold rkB
  rw [Bool.and_eq_true]
  exact ⟨by simpa using hl, allR_true fun i hi => by rw [(h i hi).1, (h i hi).2]; rfl⟩
theorem least_low {r : List Int} {m : Int} (hm : LeastI r r.length m) (h : ¬ m < -1) : ∀ i, i < r.length → lowB r i = true := by
  intro i hi
  have := hm.1 i hi
  have hx : ¬ r.getD i 0 < -1 := by omega
  simp only [lowB, hx, decide_false, Bool.not_false]

theorem rkAt_neg {l : Sys} {g r : List Int} {i : Nat} {x : Int} (e : r.getD i 0 = x) (h : x < 0) : rkAtB l g r i = true := by
  unfold rkAtB rkFree
  rw [e, decide_eq_true h]
  rfl
theorem rkAt_has {l : Sys} {g r : List Int} {i : Nat} (h : hasI g (i : Int) = true) : rkAtB l g r i = true := by
  unfold rkAtB rkFree
  rw [h, Bool.or_true]
  rfl
theorem rkAt_step {l : Sys} {g r : List Int} {i : Nat} {x : Int} (e : r.getD i 0 = x) (h : ¬ x < 0) (h2 : hasI g (i : Int) = false) : rkAtB l g r i = !((nextL l.steps i).isEmpty || anyR (nextL l.steps i).length (outB r x (nextL l.steps i))) := by
  unfold rkAtB rkFree rkStep
  rw [e, decide_eq_false h, h2]
  rfl
/-- The next ones of a state are states. -/
theorem next_is {n : Nat} {ss : List I3} (hs : StepsN n ss) {i : Int} {q : Nat} (hq : q < (nextL ss i).length) : ∃ j : Nat, (nextL ss i).getD q 0 = (j : Int) ∧ j < n := by
  have hm : (nextL ss i).getD q 0 ∈ nextL ss i := getD_mem hq
  unfold nextL at hm ⊢
  rw [List.mem_map] at hm
  obtain ⟨s, hs1, e⟩ := hm
  obtain ⟨a, b, _, h2, _, h4⟩ := hs s (List.mem_filter.1 hs1).1
  exact ⟨b, by rw [← e, h2], h4⟩

set_option maxRecDepth 100000 in
set_option maxHeartbeats 1000000 in
theorem rankClosure_any (R : Option Addr) (cr : Nat) (r : List Int) (m : Int) (k : Nat) (a b : Nat) (w : World) (hk : k < r.length) (hn : r.length ≤ 16777216)
    (ha : w.cell? ⟨a, 0, none⟩ = some (.slice R r.length cr)) (hb : w.cell? ⟨b, 0, none⟩ = some (.int .i64 m)) (hR : Cells w R (ints r)) :
    Calls Try.prog 44 #[.int .i64 k, .pointer (some ⟨a, 0, none⟩), .pointer (some ⟨b, 0, none⟩)] w fun e w' => e = .returned (.bool (!inB (r.getD k 0) 0 (pred64 m))) ∧ Below w.heap.size w w' := by
  obtain ⟨bb, oo, rfl, hc⟩ := hR.int hk
  have ck := hc k hk
  have hwr : IntKind.i64.wrap (m - 1) = pred64 m := rfl
  have HB := Lib.hid (fun n => (show Below w.heap.size w (w.drewN n) from below_drewN' (Below.refl _ _) n))
  generalize r.getD k 0 = x at *
  generalize pred64 m = pm at *
  have H := Lib.hid (fun W => within_q x 0 pm W)
  have b0 : (0 : Int) ≤ (k : Int) := by omega
  have b1 : (k : Int) < (r.length : Int) := by omega
  clear hc hR
  go_enter Try.func44, Try.ntmps44
  go_wp2_with fail
  go_quiet ((exact Calls.quiet_of_same (H.out _)))
  go_wp2_with fail
  go_ret
  exact ⟨rfl, HB.out _⟩

set_option maxRecDepth 100000 in
set_option maxHeartbeats 16000000 in
theorem implIsRanking_any (v u1 u2 : Value) (l : Sys) (g r : List Int) (w : World) (hs : SmallSys l) (hv : RSys w v l) (hgn : g.length ≤ 16777216) (hg1 : RI w u1 g) (hrn : r.length ≤ 16777216) (hr1 : RI w u2 r) :
    Calls Try.prog 13 #[v, u1, u2] w fun e w' => e = .returned (.tuple #[.bool (rankingB l g r), .bool (okGoals l g)]) ∧ Below w.heap.size w w' := by
  have HV := Lib.hid (show ∀ W, Below w.heap.size w W → RSys W v l from fun W hb => hv.below hb)
  obtain ⟨G, cg, rfl, _, hG⟩ := hg1
  obtain ⟨R, cr, rfl, _, hR⟩ := hr1
  have HG := Lib.hid (show ∀ W, Below w.heap.size w W → Cells W G (ints g) from fun W hb => hG.below hb)
  have HR := Lib.hid (show ∀ W, Below w.heap.size w W → Cells W R (ints r) from fun W hb => hR.below hb)
  obtain ⟨sv, tv, rfl, hsv, htv⟩ := hv
  obtain ⟨A, c, rfl, _⟩ := hsv.form
  obtain ⟨B, d, rfl, _, _⟩ := htv
  have hsn := hs.1
  clear hsv hG hR
  have hb2 : ∀ o o', Below w.heap.size w ((w.alloc o).alloc o') := fun o o' => ((Below.refl _ _).alloc (Nat.le_refl _) o).alloc (by simp) o'
  have HB := Lib.hid hb2
  have H1 := Lib.hid (fun o o' => isGoals_any _ l G cg g ((w.alloc o).alloc o') hs (HV.out _ (hb2 o o')) hgn (HG.out _ (hb2 o o')))
  clear hb2
  cases hg : okGoals l g
  · have E1 := Lib.hid (show rankingB l g r = false by simp [rankingB, hg])
    rw [hg] at H1
    clear hg
    go_enter Try.func13, Try.ntmps13
    go_wp2_with fail
    refine (H1.out _ _).mono ?_
    rintro e w1 ⟨rfl, hw1⟩
    have HZ := Lib.hid ((HB.out _ _).trans (hw1.mono (HB.out _ _).size))
    clear hw1
    go_wp2_with fail
    go_ret2
    exact ⟨by rw [E1.out]; rfl, HZ.out⟩
  have hgood : goodSys l = true := by unfold okGoals at hg; rw [Bool.and_eq_true] at hg; exact hg.1
  obtain ⟨l1, l2⟩ := good_len hgood
  have HST := Lib.hid (show StepsN l.states.length l.steps from good_steps hgood)
  have E0 := Lib.hid (show rankingB l g r = rkB l g r by simp [rankingB, hg])
  rw [hg] at H1
  clear hg hgood
  by_cases hl : r.length = l.states.length
  case neg =>
    have e1 : ((r.length : Int) != (l.states.length : Int)) = true := by rw [bne_iff_ne]; omega
    have e2 : ((r.length : Int) == (l.states.length : Int)) = false := by rw [beq_eq_false_iff_ne]; omega
    have E1 := Lib.hid (E0.out.trans (rkB_len hl))
    clear hl
    go_enter Try.func13, Try.ntmps13
    go_wp2_with fail
    refine (H1.out _ _).mono ?_
    rintro e w1 ⟨rfl, hw1⟩
    obtain ⟨bx, by_, _⟩ := two_boxes hw1
    have x0 : w1.cell? ⟨w.heap.size, 0, none⟩ = some (.slice A l.states.length c) := cell_of_row _ _ _ _ _ _ bx
    have y0 : w1.cell? ⟨w.heap.size + 1, 0, none⟩ = some (.slice R r.length cr) := cell_of_row _ _ _ _ _ _ by_
    have HZ := Lib.hid ((HB.out _ _).trans (hw1.mono (HB.out _ _).size))
    clear hw1 bx by_
    go_wp2_with fail
    go_ret2
    exact ⟨by rw [E1.out]; rfl, HZ.out⟩
  have e1 : ((r.length : Int) != (l.states.length : Int)) = false := by rw [bne_eq_false_iff_eq]; omega
  have e2 : ((r.length : Int) == (l.states.length : Int)) = true := by rw [beq_iff_eq]; omega
  have HL := Lib.hid hl
  have hr0 : 0 < r.length := by omega
  clear hl
  go_enter Try.func13, Try.ntmps13
  go_wp2_with fail
  refine (H1.out _ _).mono ?_
  rintro e w1 ⟨rfl, hw1⟩
  obtain ⟨bx, by_, hlt2⟩ := two_boxes hw1
  have x0 : w1.cell? ⟨w.heap.size, 0, none⟩ = some (.slice A l.states.length c) := cell_of_row _ _ _ _ _ _ bx
  have y0 : w1.cell? ⟨w.heap.size + 1, 0, none⟩ = some (.slice R r.length cr) := cell_of_row _ _ _ _ _ _ by_
  have HZ := Lib.hid ((HB.out _ _).trans (hw1.mono (HB.out _ _).size))
  have HBX := Lib.hid bx
  have HBY := Lib.hid by_
  clear hw1 bx by_
  go_wp2_with fail
  refine (minI_any R cr r w1 hrn hr0 (HR.out w1 HZ.out)).mono ?_
  rintro e w1' ⟨m, rfl, hm, rfl⟩
  have HM := Lib.hid hm
  clear hm
  by_cases hlow : m < -1
  · have E1 := Lib.hid (E0.out.trans (rkB_low HM.out hlow))
    go_wp2_with fail
    go_ret2
    exact ⟨by rw [E1.out]; rfl, HZ.out⟩
  have HLOW := Lib.hid (least_low HM.out hlow)
  go_wp2_with fail
  clear x0 y0
  go_loopw [28] (fun i wr => ∃ k : Nat, k ≤ r.length ∧ i = .int .i64 k ∧ (∀ j, j < k → rkAtB l g r j = true) ∧ Below w.heap.size w wr ∧ wr.heap[w.heap.size]? = some (.cells #[.slice A l.states.length c, .slice B l.steps.length d] 32) ∧ wr.heap[w.heap.size + 1]? = some (.cells #[.slice R r.length cr] 26))
    (fun i _ => r.length - (intOf i).toNat)
  case atStart => exact ⟨0, Nat.zero_le _, rfl, fun j hj => by omega, HZ.out, HBX.out, HBY.out⟩
  case round =>
    clear HZ HBX HBY
    obtain ⟨k, hk, rfl, hall, hbel, hbx, hby⟩ := hrel
    have HALL := Lib.hid hall
    clear hall
    by_cases hlt : k < r.length
    · obtain ⟨rb, ro, e, hc⟩ := (HR.out wr hbel).int hlt
      cases e
      have ck := hc k hlt
      have hwb : w.heap.size + 1 < wr.heap.size := (Array.getElem?_eq_some_iff.1 hby).1
      have HN := Lib.hid (fun h => all_next HALL.out h)
      generalize hx : r.getD k 0 = x at *
      have hA : Below wr.heap.size wr (wr.alloc (.cells #[.int .i64 x] 3)) := (Below.refl _ _).alloc (Nat.le_refl _) _
      have hbx1 := (hA.block w.heap.size (by omega)).trans hbx
      have hby1 := (hA.block (w.heap.size + 1) (by omega)).trans hby
      have p0 := cell_of_row _ w.heap.size 0 _ _ _ hbx1
      have p1 := cell_of_row _ w.heap.size 1 _ _ _ hbx1
      have hz0 : (wr.alloc (.cells #[.int .i64 x] 3)).cell? ⟨wr.heap.size, 0, none⟩ = some (.int .i64 x) := cell_of_row _ _ _ _ _ _ (heap_alloc_new _ _)
      have hbel1 := hbel.trans (hA.mono hbel.size)
      have hsz1 : (wr.alloc (.cells #[.int .i64 x] 3)).heap.size = wr.heap.size + 1 := by simp
      have HBEL := Lib.hid hbel1
      have HBX := Lib.hid hbx1
      have HBY := Lib.hid hby1
      have HSZ := Lib.hid hsz1
      have HZ0 := Lib.hid hz0
      have HX := Lib.hid hx
      have b0 : (0 : Int) ≤ (k : Int) := by omega
      have b1 : (k : Int) < (r.length : Int) := by omega
      clear hc hA hbx1 hby1 hbel1 hsz1 hbel hbx hby hx hz0
      by_cases hx0 : x < 0
      · have HT := Lib.hid (HN.out (rkAt_neg HX.out hx0))
        go_wp2_with fail
        go_roundw
        case rel => exact ⟨k + 1, by omega, by go_num, HT.out, HBEL.out, HBX.out, HBY.out⟩
        case measure => simp [intOf]; omega
      have HCO := Lib.hid (contains_any G cg g (k : Int) (wr.alloc (.cells #[.int .i64 x] 3)) hgn (HG.out _ HBEL.out))
      cases hgk : hasI g (k : Int)
      case true =>
        have HT := Lib.hid (HN.out (rkAt_has hgk))
        rw [hgk] at HCO
        clear hgk
        go_wp2_with ((with_reducible refine HCO.out.mono ?_); rintro e wc ⟨rfl, rfl⟩)
        go_roundw
        case rel => exact ⟨k + 1, by omega, by go_num, HT.out, HBEL.out, HBX.out, HBY.out⟩
        case measure => simp [intOf]; omega
      have HFR := Lib.hid (rkAt_step (l := l) HX.out hx0 hgk)
      rw [hgk] at HCO
      clear hgk
      go_wp2_with ((with_reducible refine HCO.out.mono ?_); rintro e wc ⟨rfl, rfl⟩)
      refine (next_any _ l (k : Int) _ hs (HV.out _ HBEL.out)).mono ?_
      rintro e w3 ⟨nv, rfl, hnv, hw3⟩
      obtain ⟨NA, nc, rfl, hnv⟩ := owns_form hnv
      have HNV := Lib.hid (Cells.of_owns hnv)
      have hnl : (nextL l.steps (k : Int)).length ≤ l.steps.length := by have := next_len l.steps (k : Int) l.steps.length; rwa [List.take_length] at this
      have hsn2 := hs.2
      have HB3 := Lib.hid (HBEL.out.trans (hw3.mono HBEL.out.size))
      have HBX3 := Lib.hid ((hw3.block w.heap.size (by rw [HSZ.out]; omega)).trans HBX.out)
      have HBY3 := Lib.hid ((hw3.block (w.heap.size + 1) (by rw [HSZ.out]; omega)).trans HBY.out)
      have HY3 := Lib.hid (cell_of_row _ (w.heap.size + 1) 0 _ _ _ HBY3.out)
      have HZ3 := Lib.hid (cell_below hw3 HZ0.out (by rw [HSZ.out]; exact Nat.lt_succ_self _))
      have HNX := Lib.hid (fun q (hq : q < (nextL l.steps (k : Int)).length) => next_is HST.out hq)
      clear hnv hw3
      generalize nextL l.steps (k : Int) = nx at *
      by_cases hnx : nx = []
      · subst hnx
        have HF := Lib.hid (E0.out.trans (rkB_at hlt (by rw [HFR.out]; rfl)))
        go_wp2_with fail
        go_ret2
        exact ⟨by rw [HF.out]; rfl, HB3.out⟩
      have hn0 : ((nx.length : Int) == 0) = false := by
        rw [beq_eq_false_iff_ne]
        intro h
        exact hnx (List.eq_nil_of_length_eq_zero (by omega))
      have hn1 : nx.isEmpty = false := by simpa using hnx
      rw [hn1, Bool.false_or] at HFR
      have HCF := Lib.hid (containsFuncI_any NA nc nx 44 #[.pointer (some ⟨w.heap.size + 1, 0, none⟩), .pointer (some ⟨wr.heap.size, 0, none⟩)] (outB r x nx) w3 (by omega) HNV.out (enter_of Try.func44 (by kernel_rfl) (by kernel_rfl)) (fun q W hq hb => by
        obtain ⟨j, ej, hj⟩ := HNX.out q hq
        rw [ej]
        have := rankClosure_any (some ⟨rb, ro, none⟩) cr r x j (w.heap.size + 1) wr.heap.size W (by have := HL.out; omega) hrn (cell_below hb HY3.out (lt_of_cell HY3.out)) (cell_below hb HZ3.out (lt_of_cell HZ3.out)) (HR.out W (HB3.out.trans (hb.mono HB3.out.size)))
        unfold outB
        rw [ej]
        unfold atI
        rw [Int.toNat_natCast]
        exact this))
      clear hn1 hnx
      cases hany : anyR nx.length (outB r x nx)
      · have HT := Lib.hid (HN.out (by rw [HFR.out, hany]; rfl))
        rw [hany] at HCF
        clear hany
        go_wp2_with ((with_reducible refine HCF.out.mono ?_); rintro e w4 ⟨rfl, hw4⟩)
        go_roundw
        case rel => exact ⟨k + 1, by omega, by go_num, HT.out, HB3.out.trans (hw4.mono HB3.out.size), (hw4.block _ (by have := (Array.getElem?_eq_some_iff.1 HBX3.out).1; omega)).trans HBX3.out, (hw4.block _ (by have := (Array.getElem?_eq_some_iff.1 HBY3.out).1; omega)).trans HBY3.out⟩
        case measure => simp [intOf]; omega
      · have HF := Lib.hid (E0.out.trans (rkB_at hlt (by rw [HFR.out, hany]; rfl)))
        rw [hany] at HCF
        clear hany
        go_wp2_with ((with_reducible refine HCF.out.mono ?_); rintro e w4 ⟨rfl, hw4⟩)
        go_ret2
        exact ⟨by rw [HF.out]; rfl, HB3.out.trans (hw4.mono HB3.out.size)⟩
    · obtain rfl : k = r.length := by omega
      have E1 := Lib.hid (E0.out.trans (rkB_all HL.out (fun i hi => ⟨HLOW.out i hi, HALL.out i hi⟩)))
      have HB2 := Lib.hid hbel
      clear hbel hbx hby
      go_wp2_with fail
      go_ret2
      exact ⟨by rw [E1.out]; rfl, HB2.out⟩

end Go.Proofs.Ytlgdmafgbmnjdaa
