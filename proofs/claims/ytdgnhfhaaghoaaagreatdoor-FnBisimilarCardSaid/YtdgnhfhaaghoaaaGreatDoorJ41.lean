/- Labelled systems: IsBisimulation of the program walked. -/
import Derived.Test.YtdgnhfhaaghoaaaGreatDoorProg
import Derived.Test.YtdgnhfhaaghoaaaGreatDoorJ37
import Derived.Test.YtdgnhfhaaghoaaaGreatDoorJ40
set_option linter.unusedSimpArgs false
set_option linter.unusedVariables false
namespace Go.Proofs.YtdgnhfhaaghoaaaGreatDoor
open Go.RowKit
open Go.Sort (grow)

set_option maxRecDepth 100000 in
set_option maxHeartbeats 1000000 in
theorem bisClosure2_any (P M : Nat) (dm r : Int → Int → Bool) (x y : Int) (w : World) (hP : w.cell? ⟨P, 0, none⟩ = some (.map (some M))) (hM : BRel w M dm r) (hx : InS x) (hy : InS y) :
    Calls Tryz.prog 109 #[.int .i64 x, .int .i64 y, .pointer (some ⟨P, 0, none⟩)] w fun e w' => e = .returned (.bool (r x y)) ∧ Below w.heap.size w w' := by
  have hlk : (Instr.lookup 114 (.map (some M)) (.agg #[.int .i64 x, .int .i64 y]) false).run Tryz.prog w = .ok (.bool (r x y)) w := run_look pairKey Tryz.underlying114 (zeroB w) hM hx hy
  go_enter Tryz.func109, Tryz.ntmps109
  go_wp2_with fail
  go_ret
  exact ⟨rfl, Below.refl _ _⟩

set_option maxRecDepth 100000 in
set_option maxHeartbeats 1000000 in
theorem bisClosure3_any (P M : Nat) (dm r : Int → Int → Bool) (x y : Int) (w : World) (hP : w.cell? ⟨P, 0, none⟩ = some (.map (some M))) (hM : BRel w M dm r) (hx : InS x) (hy : InS y) :
    Calls Tryz.prog 110 #[.int .i64 x, .int .i64 y, .pointer (some ⟨P, 0, none⟩)] w fun e w' => e = .returned (.bool (r y x)) ∧ Below w.heap.size w w' := by
  have hlk : (Instr.lookup 114 (.map (some M)) (.agg #[.int .i64 y, .int .i64 x]) false).run Tryz.prog w = .ok (.bool (r y x)) w := run_look pairKey Tryz.underlying114 (zeroB w) hM hy hx
  go_enter Tryz.func110, Tryz.ntmps110
  go_wp2_with fail
  go_ret
  exact ⟨rfl, Below.refl _ _⟩

set_option maxRecDepth 100000 in
set_option maxHeartbeats 2000000 in
theorem bisClosure1_any (l : Lab) (p : I2) (sv tv : Value) (b : Nat) (w : World) (hs : SmallLab l) (h0 : w.cell? ⟨b, 0, none⟩ = some sv) (h1 : w.cell? ⟨b, 1, none⟩ = some tv) (hv : RLab w (.agg #[sv, tv]) l) :
    Calls Tryz.prog 106 #[.agg #[.int .i64 p.1, .int .i64 p.2], .pointer (some ⟨b, 0, none⟩)] w fun e w' => e = .returned (.bool (!inP l p)) ∧ Below w.heap.size w w' := by
  have hal : Below w.heap.size w (w.alloc (.cells #[.int .i64 p.1, .int .i64 p.2] 66)) := (Below.refl _ _).alloc (Nat.le_refl _) _
  have k0 : (w.alloc (.cells #[.int .i64 p.1, .int .i64 p.2] 66)).cell? ⟨w.heap.size, 0, none⟩ = some (.int .i64 p.1) := cell_of_row _ _ _ _ _ _ (heap_alloc_new _ _)
  have k1 : (w.alloc (.cells #[.int .i64 p.1, .int .i64 p.2] 66)).cell? ⟨w.heap.size, 1, none⟩ = some (.int .i64 p.2) := cell_of_row _ _ _ _ _ _ (heap_alloc_new _ _)
  have h0 := cell_below hal h0 (lt_of_cell h0)
  have h1 := cell_below hal h1 (lt_of_cell h1)
  have HB := Lib.hid hal
  have H := Lib.hid (fun W x (hW : Below w.heap.size w W) => isStateL_any _ l x W hs (hv.below hW))
  clear hal hv
  cases e1 : stB l p.1
  · have HE := Lib.hid (show inP l p = false by unfold inP; rw [e1]; rfl)
    have HX := Lib.hid (H.out _ p.1 HB.out)
    rw [e1] at HX
    clear e1
    go_enter Tryz.func106, Tryz.ntmps106
    go_wp2_with fail
    refine HX.out.mono ?_
    rintro e w1 ⟨rfl, hb1⟩
    have HZ := Lib.hid (HB.out.trans (hb1.mono HB.out.size))
    clear hb1
    go_wp2_with fail
    go_ret
    exact ⟨by rw [HE.out]; rfl, HZ.out⟩
  · have HE := Lib.hid (show inP l p = stB l p.2 by unfold inP; rw [e1]; rfl)
    have HX := Lib.hid (H.out _ p.1 HB.out)
    have HX2 := Lib.hid (fun W (hW : Below w.heap.size w W) => H.out W p.2 hW)
    rw [e1] at HX
    clear e1
    go_enter Tryz.func106, Tryz.ntmps106
    go_wp2_with fail
    refine HX.out.mono ?_
    rintro e w1 ⟨rfl, hb1⟩
    have HZ := Lib.hid (HB.out.trans (hb1.mono HB.out.size))
    have h0 := cell_below hb1 h0 (lt_of_cell h0)
    have h1 := cell_below hb1 h1 (lt_of_cell h1)
    have k0 := cell_below hb1 k0 (lt_of_cell k0)
    have k1 := cell_below hb1 k1 (lt_of_cell k1)
    clear hb1
    go_wp2_with fail
    refine (HX2.out _ HZ.out).mono ?_
    rintro e w2 ⟨rfl, hb2⟩
    have HZ2 := Lib.hid (HZ.out.trans (hb2.mono HZ.out.size))
    clear hb2
    go_wp2_with fail
    go_ret
    exact ⟨by rw [HE.out]; rfl, HZ2.out⟩

theorem relP_set {ps : List I2} {k : Nat} (h : k < ps.length) : setB (relP (ps.take k)) ps[k].1 ps[k].2 true = relP (ps.take (k + 1)) := by
  funext a b
  rw [relP_take h]
  unfold setB
  by_cases e : a = ps[k].1 ∧ b = ps[k].2
  · rw [if_pos e, e.1, e.2]
    simp
  · rw [if_neg e]
    have : ((ps[k].1 == a) && (ps[k].2 == b)) = false := by
      rw [Bool.eq_false_iff]
      intro h
      simp only [Bool.and_eq_true, beq_iff_eq] at h
      exact e ⟨h.1.symm, h.2.symm⟩
    rw [this, Bool.or_false]

set_option maxRecDepth 100000 in
set_option maxHeartbeats 16000000 in
theorem implIsBisimulation_any (v u : Value) (l : Lab) (ps : List I2) (w : World) (hs : SmallLab l) (hv : RLab w v l) (hp : ps.length ≤ 16777216) (hu : RA2 w u ps) :
    Calls Tryz.prog 48 #[v, u] w fun e w' => e = .returned (.tuple #[.bool (okB l ps && bisB l ps), .bool (okB l ps)]) ∧ Below w.heap.size w w' := by
  have HV := Lib.hid (show ∀ W, Below w.heap.size w W → RLab W v l from fun W hb => hv.below hb)
  have HU := Lib.hid (show ∀ W, Below w.heap.size w W → RA2 W u ps from fun W hb => hu.below hb)
  have HS := Lib.hid hs
  have HSH := Lib.hid hs.2.2
  have hs1 := hs.1
  have hal : ∀ o, Below w.heap.size w (w.alloc o) := fun o => (Below.refl _ _).alloc (Nat.le_refl _) o
  have HL := Lib.hid (fun W (hW : Below w.heap.size w W) => implIsLabelled_any v l W HS.out (HV.out W hW))
  obtain ⟨A9, c9, rfl, _, _⟩ := hu
  obtain ⟨sv, tv, rfl, hsv, htv⟩ := hv
  have HSV := Lib.hid (show ∀ W, Below w.heap.size w W → RSS W sv l.shows from fun W hb => hsv.below hb)
  obtain ⟨A, c, vs, rfl, hm, _, _, _⟩ := hsv
  obtain ⟨D, d, rfl, _, _⟩ := htv
  have HB := Lib.hid (hal (.cells #[.slice A l.shows.length c, .slice D l.steps.length d] 27))
  clear hal hs
  cases hg : goodLab l
  · have hok : okB l ps = false := by unfold okB; rw [hg]; rfl
    rw [hok, Bool.false_and]
    have H1 := Lib.hid (HL.out _ HB.out)
    rw [hg] at H1
    clear hok
    go_enter Tryz.func48, Tryz.ntmps48
    go_wp2_with fail
    refine H1.out.mono ?_
    rintro e w1 ⟨rfl, hb1⟩
    have HZ := Lib.hid (HB.out.trans (hb1.mono HB.out.size))
    clear hb1
    go_wp2_with fail
    go_ret2
    exact ⟨rfl, HZ.out⟩
  have H1 := Lib.hid (HL.out _ HB.out)
  rw [hg] at H1
  have HIN := Lib.hid (lab_in hg)
  have HOK := Lib.hid (show okB l ps = ps.all (inP l) by unfold okB; rw [hg, Bool.true_and])
  have HCF := Lib.hid (fun W (hW : Below w.heap.size w W) (h0 : W.cell? ⟨w.heap.size, 0, none⟩ = some (.slice A l.shows.length c)) (h1 : W.cell? ⟨w.heap.size, 1, none⟩ = some (.slice D l.steps.length d)) =>
    containsFuncD_any (.slice A9 ps.length c9) ps 106 #[.pointer (some ⟨w.heap.size, 0, none⟩)] (fun k => !inP l (ps.getD k (0, 0))) W hp (HU.out W hW) (enter_of Tryz.func106 (by kernel_rfl) (by kernel_rfl)) (fun k x W' hk hb => by
      have hx : ps.getD k (0, 0) = x := by simp [List.getD, hk]
      rw [hx]
      exact bisClosure1_any l x _ _ w.heap.size W' HS.out (cell_below hb h0 (lt_of_cell h0)) (cell_below hb h1 (lt_of_cell h1)) ((HV.out W hW).below hb)))
  have hany : anyR ps.length (fun k => !inP l (ps.getD k (0, 0))) = !(ps.all (inP l)) := by
    rw [← any_not ps.length (fun k => !inP l (ps.getD k (0, 0))) (fun k => inP l (ps.getD k (0, 0))) (fun k _ => rfl) |> fun h => show allR ps.length (fun k => inP l (ps.getD k (0, 0))) = ps.all (inP l) from by
      unfold allR
      rw [Bool.eq_iff_iff, List.all_eq_true, List.all_eq_true]
      constructor
      · intro h p hp
        obtain ⟨k, hk, rfl⟩ := List.getElem_of_mem hp
        have := h k (List.mem_range.2 hk)
        simpa [List.getD, hk] using this
      · intro h k hk
        have hk := List.mem_range.1 hk
        have := h _ (List.getElem_mem hk)
        simpa [List.getD, hk] using this]
    rw [← any_not ps.length (fun k => !inP l (ps.getD k (0, 0))) (fun k => inP l (ps.getD k (0, 0))) (fun k _ => rfl), Bool.not_not]
  rw [hany] at HCF
  clear hany
  cases hall : ps.all (inP l)
  · rw [hall] at HCF
    have hok : okB l ps = false := by rw [HOK.out, hall]
    rw [hok, Bool.false_and]
    clear hok hall hg
    go_enter Tryz.func48, Tryz.ntmps48
    go_wp2_with fail
    refine H1.out.mono ?_
    rintro e w1 ⟨rfl, hb1⟩
    obtain ⟨bx, _⟩ := one_box hb1
    have x0 : w1.cell? ⟨w.heap.size, 0, none⟩ = some (.slice A l.shows.length c) := cell_of_row _ _ _ _ _ _ bx
    have x1 : w1.cell? ⟨w.heap.size, 1, none⟩ = some (.slice D l.steps.length d) := cell_of_row _ _ _ _ _ _ bx
    have HZ := Lib.hid (HB.out.trans (hb1.mono HB.out.size))
    have HX0 := Lib.hid x0
    have HX1 := Lib.hid x1
    clear hb1 bx
    go_wp2_with fail
    refine (HCF.out w1 HZ.out HX0.out HX1.out).mono ?_
    rintro e w2 ⟨rfl, hb2⟩
    have HZ2 := Lib.hid (HZ.out.trans (hb2.mono HZ.out.size))
    clear hb2 x0 x1
    go_wp2_with fail
    go_ret2
    exact ⟨rfl, HZ2.out⟩
  rw [hall] at HCF
  have HAL := Lib.hid (show ∀ p ∈ ps, inP l p = true from List.all_eq_true.1 hall)
  have hok : okB l ps = true := by rw [HOK.out, hall]
  rw [hok, Bool.true_and]
  have hmm := @run_makeMap Tryz.prog
  clear hok hall hg
  go_enter Tryz.func48, Tryz.ntmps48
  go_wp2_with fail
  refine H1.out.mono ?_
  rintro e w1 ⟨rfl, hb1⟩
  obtain ⟨bx, _⟩ := one_box hb1
  have x0 : w1.cell? ⟨w.heap.size, 0, none⟩ = some (.slice A l.shows.length c) := cell_of_row _ _ _ _ _ _ bx
  have x1 : w1.cell? ⟨w.heap.size, 1, none⟩ = some (.slice D l.steps.length d) := cell_of_row _ _ _ _ _ _ bx
  have HZ := Lib.hid (HB.out.trans (hb1.mono HB.out.size))
  have HX0 := Lib.hid x0
  have HX1 := Lib.hid x1
  clear hb1 bx
  go_wp2_with fail
  refine (HCF.out w1 HZ.out HX0.out HX1.out).mono ?_
  rintro e w3 ⟨rfl, hb2⟩
  have HZ3 := Lib.hid (HZ.out.trans (hb2.mono HZ.out.size))
  have HX0 := Lib.hid (cell_below hb2 x0 (lt_of_cell x0))
  have HX1 := Lib.hid (cell_below hb2 x1 (lt_of_cell x1))
  clear hb2 x0 x1
  have hA1 : Below w3.heap.size w3 (w3.alloc (.map #[] 0)) := (Below.refl _ _).alloc (Nat.le_refl _) _
  have hA2 : Below w3.heap.size w3 ((w3.alloc (.map #[] 0)).alloc (.cells #[.map (some w3.heap.size)] 114)) := hA1.alloc hA1.size _
  have hrel0 := brel_made w3
  have hp0 := heap_alloc_new (w3.alloc (.map #[] 0)) (.cells #[.map (some w3.heap.size)] 114)
  rw [World.size_alloc] at hp0
  have HP0 := Lib.hid hp0
  have HR0 := Lib.hid (show BRel ((w3.alloc (.map #[] 0)).alloc (.cells #[.map (some w3.heap.size)] 114)) w3.heap.size (relP (ps.take 0)) (relP (ps.take 0)) from hrel0.below ((Below.refl _ _).alloc (Nat.le_refl _) _) (Nat.le_refl _))
  have HA2 := Lib.hid hA2
  clear hA1 hA2 hrel0 hp0
  go_wp2_with fail
  obtain ⟨M, hM⟩ : ∃ M, M = w3.heap.size := ⟨_, rfl⟩
  have HWM := Lib.hid (show w.heap.size < M from by rw [hM]; exact lt_of_cell HX0.out)
  rw [← hM] at HP0 HR0 HA2 ⊢
  have HMS := Lib.hid hM
  clear hM
  go_loopw [22] (fun q wr => ∃ k : Nat, k ≤ ps.length ∧ q = .int .i64 k ∧ BRel wr M (relP (ps.take k)) (relP (ps.take k)) ∧ wr.heap[M + 1]? = some (.cells #[.map (some M)] 114) ∧ Below M w3 wr)
    (fun q _ => ps.length - (intOf q).toNat)
  case atStart => exact ⟨0, Nat.zero_le _, rfl, HR0.out, HP0.out, HA2.out⟩
  case round =>
    clear HR0 HP0 HA2
    obtain ⟨k, hk, rfl, hr, hp', hbel⟩ := hrel
    have HR := Lib.hid hr
    have HP := Lib.hid hp'
    have HZ4 := Lib.hid hbel
    have hbw : Below w.heap.size w wr := HZ3.out.trans (hbel.mono (by have := HWM.out; have := HMS.out; omega))
    have HZW := Lib.hid hbw
    by_cases hlt : k < ps.length
    · obtain ⟨b, o, c', e, k0, k1⟩ := (HU.out wr hbw).at_ (List.getElem?_eq_getElem hlt)
      cases e
      have hset := relP_set hlt
      have hin := HAL.out _ (List.getElem_mem hlt)
      generalize ps[k] = p at *
      unfold inP at hin
      rw [Bool.and_eq_true] at hin
      obtain ⟨i, hpi, hi⟩ := stB_true hin.1
      obtain ⟨j, hpj, hj⟩ := stB_true hin.2
      have hi1 : InS p.1 := by rw [hpi]; exact inS_nat (by have := HIN.out.most; omega)
      have hj1 : InS p.2 := by rw [hpj]; exact inS_nat (by have := HIN.out.most; omega)
      have hA : Below wr.heap.size wr (wr.alloc (.cells #[.int .i64 p.1, .int .i64 p.2] 66)) := (Below.refl _ _).alloc (Nat.le_refl _) _
      obtain ⟨w5, hrun, hr5, hg5, hz5⟩ := brel_put pairKey Tryz.underlying114 (hr.below hA (Nat.le_refl _)) hi1 hj1 true
      rw [hset] at hr5
      have hrun' : (Instr.mapUpdate 114 (.map (some M)) (.agg #[.int .i64 p.1, .int .i64 p.2]) (.bool true)).run Tryz.prog (wr.alloc (.cells #[.int .i64 p.1, .int .i64 p.2] 66)) = .ok () w5 := hrun
      have hpA := (hA.block (M + 1) (Array.getElem?_eq_some_iff.1 hp').1).trans hp'
      have pA : (wr.alloc (.cells #[.int .i64 p.1, .int .i64 p.2] 66)).cell? ⟨M + 1, 0, none⟩ = some (.map (some M)) := cell_of_row _ _ _ _ _ _ hpA
      have hms : M ≤ wr.heap.size := by have := hbel.size; have := HMS.out; omega
      have HR5 := Lib.hid hr5
      have HP5 := Lib.hid ((hg5.block (M + 1) (Array.getElem?_eq_some_iff.1 hpA).1 (by simp)).trans hpA)
      have HZ5 := Lib.hid ((hbel.trans (hA.mono hms)).grown hg5 (by simp; omega) (fun q hq => by cases hq; exact Nat.le_refl _))
      have b0 : (0 : Int) ≤ (k : Int) := by omega
      have b1 : (k : Int) < (ps.length : Int) := by omega
      clear hset hin hpi hpj hi1 hj1 hA hrun hr5 hg5 hpA hms hr hp' hbel hbw
      go_wp2_with fail
      go_roundw
      case rel => exact ⟨k + 1, by omega, by go_num, HR5.out, HP5.out, HZ5.out⟩
      case measure => simp [intOf]; omega
    · obtain rfl : k = ps.length := by omega
      have hr2 := hr
      rw [List.take_length] at hr2
      have HR2 := Lib.hid hr2
      clear hr hr2 hp' hbel hbw HR
      go_wp2_with fail
      go_loopw [31] (fun q wq => ∃ k : Nat, k ≤ ps.length ∧ q = .int .i64 k ∧ (ps.take k).all (bisP l (relP ps)) = true ∧ Below wr.heap.size wr wq)
        (fun q _ => ps.length - (intOf q).toNat)
      case atStart => exact ⟨0, Nat.zero_le _, rfl, rfl, Below.refl _ _⟩
      case round =>
        obtain ⟨k, hk, rfl, hall, hbel⟩ := hrel
        have HALL := Lib.hid hall
        have HZ4q := Lib.hid hbel
        have hzq := HZW.out.trans (hbel.mono HZW.out.size)
        have HZQ := Lib.hid hzq
        by_cases hlt : k < ps.length
        · obtain ⟨b, o, c', e, k0, k1⟩ := (HU.out wr hzq).at_ (List.getElem?_eq_getElem hlt)
          cases e
          have HAT := Lib.hid (all_to hlt HALL.out)
          have HNO := Lib.hid (fun h => all_no (f := bisP l (relP ps)) hlt h)
          have hin := HAL.out _ (List.getElem_mem hlt)
          generalize ps[k] = p at *
          have b0 : (0 : Int) ≤ (k : Int) := by omega
          have b1 : (k : Int) < (ps.length : Int) := by omega
          unfold inP at hin
          rw [Bool.and_eq_true] at hin
          obtain ⟨i, hpi, hi⟩ := stB_true hin.1
          obtain ⟨j, hpj, hj⟩ := stB_true hin.2
          rw [hpi] at k0
          rw [hpj] at k1
          obtain ⟨A', c', us, e, _, hul, hcu, hru⟩ := HSV.out wr hzq
          cases e
          obtain ⟨sb, so, rfl, hcc⟩ := hcu.at_ (k := i) (by omega)
          have ci := hcc i _ (List.getElem?_eq_getElem (by omega))
          have ck := hcc j _ (List.getElem?_eq_getElem (by omega))
          obtain ⟨Ai, ai, ei, _, hAi⟩ := hru i _ _ (List.getElem?_eq_getElem (by omega)) (List.getElem?_eq_getElem hi)
          obtain ⟨Ak, ak, ek, _, hAk⟩ := hru j _ _ (List.getElem?_eq_getElem (by omega)) (List.getElem?_eq_getElem hj)
          rw [ei] at ci
          rw [ek] at ck
          have hsi := HSH.out _ (List.getElem_mem hi)
          have hsk := HSH.out _ (List.getElem_mem hj)
          have hbis : bisP l (relP ps) p = (sameI l.shows[i] l.shows[j] && (folB l.steps i j (relP ps) && folB l.steps j i (fun y x => relP ps x y))) := by
            unfold bisP
            rw [hpi, hpj]
            simp [List.getD, hi, hj]
          rw [hbis] at HAT HNO
          obtain ⟨wA, hwA⟩ : ∃ wA, wA = wr.alloc (.cells #[.int .i64 i, .int .i64 j] 66) := ⟨_, rfl⟩
          have hA : Below wr.heap.size wr wA := by rw [hwA]; exact (Below.refl _ _).alloc (Nat.le_refl _) _
          have hkA : wA.heap[wr.heap.size]? = some (.cells #[.int .i64 i, .int .i64 j] 66) := by rw [hwA]; exact heap_alloc_new _ _
          have HRW := Lib.hid (fun d os => hA.trans ((below_regrown wA d os).mono hA.size))
          have HRG := Lib.hid (show ∀ W, Below wr.heap.size wr W → W.cell? ⟨M + 1, 0, none⟩ = some (.map (some M)) ∧ BRel W M (relP ps) (relP ps) from fun W hW => ⟨cell_of_row _ _ _ _ _ _ ((hW.block (M + 1) (Array.getElem?_eq_some_iff.1 ((hbel.block (M + 1) (Array.getElem?_eq_some_iff.1 HP.out).1).trans HP.out)).1).trans ((hbel.block (M + 1) (Array.getElem?_eq_some_iff.1 HP.out).1).trans HP.out)), (HR2.out.below hbel (Nat.le_refl _)).below hW (Nat.le_refl _)⟩)
          have HDOM := Lib.hid (show ∀ s ∈ l.steps, InS s.2.2 from fun s hs => by
            obtain ⟨⟨_, q, _, hq, _, hqn⟩, _, _⟩ := HIN.out.step s hs
            rw [hq]
            exact inS_nat (by have := HIN.out.most; omega))
          have CS := Lib.hid (fun d os => Calls.regrown_of (equalI_any Ai Ak ai ak l.shows[i] l.shows[j] (grow (redrawn wA d) os) hsi hsk (hAi.below (HRW.out d os)) (hAk.below (HRW.out d os))))
          have CA := Lib.hid (fun d os => Calls.regrown_of (follows_any _ l i j InS (relP ps) 109 #[.pointer (some ⟨M + 1, 0, none⟩)] (grow (redrawn wA d) os) HS.out.2.1 (HV.out _ (hzq.trans ((HRW.out d os).mono hzq.size)))
            (enter_of Tryz.func109 (by kernel_rfl) (by kernel_rfl)) HDOM.out (fun x y W hx hy hW => bisClosure2_any (M + 1) M (relP ps) (relP ps) x y W (HRG.out W ((HRW.out d os).trans (hW.mono (HRW.out d os).size))).1 (HRG.out W ((HRW.out d os).trans (hW.mono (HRW.out d os).size))).2 hx hy)))
          have CB := Lib.hid (fun d os => Calls.regrown_of (follows_any _ l j i InS (fun y x => relP ps x y) 110 #[.pointer (some ⟨M + 1, 0, none⟩)] (grow (redrawn wA d) os) HS.out.2.1 (HV.out _ (hzq.trans ((HRW.out d os).mono hzq.size)))
            (enter_of Tryz.func110 (by kernel_rfl) (by kernel_rfl)) HDOM.out (fun x y W hx hy hW => bisClosure3_any (M + 1) M (relP ps) (relP ps) x y W (HRG.out W ((HRW.out d os).trans (hW.mono (HRW.out d os).size))).1 (HRG.out W ((HRW.out d os).trans (hW.mono (HRW.out d os).size))).2 hx hy)))
          have y0 := cell_below hbel (cell_below HZ4.out HX0.out (by have := HWM.out; exact this)) (lt_of_cell (cell_below HZ4.out HX0.out (by have := HWM.out; exact this)))
          have y1 := cell_below hbel (cell_below HZ4.out HX1.out (by have := HWM.out; exact this)) (lt_of_cell (cell_below HZ4.out HX1.out (by have := HWM.out; exact this)))
          have x0 := cell_regrown (cell_below hA y0 (lt_of_cell y0))
          have x1 := cell_regrown (cell_below hA y1 (lt_of_cell y1))
          have ci := cell_regrown (cell_below hA ci (lt_of_cell ci))
          have ck := cell_regrown (cell_below hA ck (lt_of_cell ck))
          have z0 := cell_regrown (cell_of_row wA wr.heap.size 0 _ _ _ hkA)
          have z1 := cell_regrown (cell_of_row wA wr.heap.size 1 _ _ _ hkA)
          have d0 : (0 : Int) ≤ (i : Int) := by omega
          have d1 : (i : Int) < (l.shows.length : Int) := by omega
          have d2 : (0 : Int) ≤ (j : Int) := by omega
          have d3 : (j : Int) < (l.shows.length : Int) := by omega
          have HZ4A := Lib.hid (hbel.trans (hA.mono hbel.size))
          have HZQA := Lib.hid (hzq.trans (hA.mono hzq.size))
          have HWA := Lib.hid hwA
          clear hall hin hpi hpj hcc hru hcu ei ek hAi hAk hsi hsk hbis hul hbel hzq hA hkA y0 y1 hwA
          generalize l.shows[i] = xi at *
          generalize l.shows[j] = xk at *
          go_wp2_with fail
          rw [← HWA.out]
          clear k0 k1
          cases h1 : sameI xi xk
          · rw [h1] at CS
            have HF := Lib.hid (show bisB l ps = false from HNO.out (by rw [h1]; rfl))
            clear h1
            refine wp_region_quiet_below (by kernel_rfl) (by kernel_rfl) ?_
            refine quiet_cut 33 (fun K33 k33 => ?_)
            simp only [List.take_succ_cons, List.take_zero, List.drop_succ_cons, List.drop_zero] at k33 ⊢
            refine quiet_cut 32 (fun K32 k32 => ?_)
            simp only [List.take_succ_cons, List.take_zero, List.drop_succ_cons, List.drop_zero] at k32 ⊢
            refine quiet_cut 31 (fun K31 k31 => ?_)
            simp only [List.take_succ_cons, List.take_zero, List.drop_succ_cons, List.drop_zero] at k31 ⊢
            refine quiet_cut 30 (fun K30 k30 => ?_)
            simp only [List.take_succ_cons, List.take_zero, List.drop_succ_cons, List.drop_zero] at k30 ⊢
            refine quiet_cut 29 (fun K29 k29 => ?_)
            simp only [List.take_succ_cons, List.take_zero, List.drop_succ_cons, List.drop_zero] at k29 ⊢
            refine quiet_cut 28 (fun K28 k28 => ?_)
            simp only [List.take_succ_cons, List.take_zero, List.drop_succ_cons, List.drop_zero] at k28 ⊢
            refine quiet_cut 27 (fun K27 k27 => ?_)
            simp only [List.take_succ_cons, List.take_zero, List.drop_succ_cons, List.drop_zero] at k27 ⊢
            refine quiet_cut 26 (fun K26 k26 => ?_)
            simp only [List.take_succ_cons, List.take_zero, List.drop_succ_cons, List.drop_zero] at k26 ⊢
            refine quiet_cut 25 (fun K25 k25 => ?_)
            simp only [List.take_succ_cons, List.take_zero, List.drop_succ_cons, List.drop_zero] at k25 ⊢
            refine quiet_cut 24 (fun K24 k24 => ?_)
            simp only [List.take_succ_cons, List.take_zero, List.drop_succ_cons, List.drop_zero] at k24 ⊢
            refine quiet_cut 23 (fun K23 k23 => ?_)
            simp only [List.take_succ_cons, List.take_zero, List.drop_succ_cons, List.drop_zero] at k23 ⊢
            refine quiet_cut 22 (fun K22 k22 => ?_)
            simp only [List.take_succ_cons, List.take_zero, List.drop_succ_cons, List.drop_zero] at k22 ⊢
            refine quiet_cut 21 (fun K21 k21 => ?_)
            simp only [List.take_succ_cons, List.take_zero, List.drop_succ_cons, List.drop_zero] at k21 ⊢
            refine quiet_cut 20 (fun K20 k20 => ?_)
            simp only [List.take_succ_cons, List.take_zero, List.drop_succ_cons, List.drop_zero] at k20 ⊢
            refine quiet_cut 19 (fun K19 k19 => ?_)
            simp only [List.take_succ_cons, List.take_zero, List.drop_succ_cons, List.drop_zero] at k19 ⊢
            refine quiet_cut 18 (fun K18 k18 => ?_)
            simp only [List.take_succ_cons, List.take_zero, List.drop_succ_cons, List.drop_zero] at k18 ⊢
            refine quiet_cut 17 (fun K17 k17 => ?_)
            simp only [List.take_succ_cons, List.take_zero, List.drop_succ_cons, List.drop_zero] at k17 ⊢
            refine quiet_cut 16 (fun K16 k16 => ?_)
            simp only [List.take_succ_cons, List.take_zero, List.drop_succ_cons, List.drop_zero] at k16 ⊢
            refine quiet_cut 15 (fun K15 k15 => ?_)
            simp only [List.take_succ_cons, List.take_zero, List.drop_succ_cons, List.drop_zero] at k15 ⊢
            refine quiet_cut 14 (fun K14 k14 => ?_)
            simp only [List.take_succ_cons, List.take_zero, List.drop_succ_cons, List.drop_zero] at k14 ⊢
            quiet_step (exact CS.out _ _)
            quiet_step (exact CS.out _ _)
            quiet_step (exact CS.out _ _)
            quiet_step (exact CS.out _ _)
            quiet_step (exact CS.out _ _)
            quiet_step (exact CS.out _ _)
            quiet_step (exact CS.out _ _)
            quiet_step (exact CS.out _ _)
            quiet_step (exact CS.out _ _)
            quiet_step (exact CS.out _ _)
            quiet_step (exact CS.out _ _)
            quiet_step (exact CS.out _ _)
            quiet_step (exact CS.out _ _)
            quiet_step (exact CS.out _ _)
            refine wpQuiet_nil ?_
            refine k14 _ ?_
            quiet_step (exact CS.out _ _)
            refine wpQuiet_nil ?_
            refine k15 _ ?_
            quiet_step (exact CA.out _ _)
            refine wpQuiet_nil ?_
            refine k16 _ ?_
            quiet_step (exact CA.out _ _)
            refine wpQuiet_nil ?_
            refine k17 _ ?_
            quiet_step (exact CA.out _ _)
            refine wpQuiet_nil ?_
            refine k18 _ ?_
            quiet_step (exact CA.out _ _)
            refine wpQuiet_nil ?_
            refine k19 _ ?_
            quiet_step (exact CA.out _ _)
            refine wpQuiet_nil ?_
            refine k20 _ ?_
            quiet_step (exact CA.out _ _)
            refine wpQuiet_nil ?_
            refine k21 _ ?_
            quiet_step (exact CA.out _ _)
            refine wpQuiet_nil ?_
            refine k22 _ ?_
            quiet_step (exact CA.out _ _)
            refine wpQuiet_nil ?_
            refine k23 _ ?_
            quiet_step (exact CA.out _ _)
            refine wpQuiet_nil ?_
            refine k24 _ ?_
            quiet_step (exact CB.out _ _)
            refine wpQuiet_nil ?_
            refine k25 _ ?_
            quiet_step (exact CB.out _ _)
            refine wpQuiet_nil ?_
            refine k26 _ ?_
            quiet_step (exact CB.out _ _)
            refine wpQuiet_nil ?_
            refine k27 _ ?_
            quiet_step (exact CB.out _ _)
            refine wpQuiet_nil ?_
            refine k28 _ ?_
            quiet_step (exact CB.out _ _)
            refine wpQuiet_nil ?_
            refine k29 _ ?_
            quiet_step (exact CB.out _ _)
            refine wpQuiet_nil ?_
            refine k30 _ ?_
            quiet_step (exact CB.out _ _)
            refine wpQuiet_nil ?_
            refine k31 _ ?_
            quiet_step (exact CB.out _ _)
            refine wpQuiet_nil ?_
            refine k32 _ ?_
            quiet_step (exact CB.out _ _)
            refine wpQuiet_nil ?_
            refine k33 _ ?_
            quiet_step (exact CB.out _ _)
            refine wpQuiet_nil ?_
            intro wG hw'
            have hbG : Below wA.heap.size wA wG := by
              obtain ⟨pG, rfl⟩ := hw'
              exact below_regrown _ _ _
            clear hw'
            have HZG := Lib.hid (HZQA.out.trans (hbG.mono HZQA.out.size))
            clear hbG x0 x1 ci ck z0 z1
            go_wp2_with fail
            go_ret2
            exact ⟨by rw [HF.out]; rfl, HZG.out⟩
          · rw [h1, Bool.true_and] at HAT HNO
            rw [h1] at CS
            clear h1
            cases h2 : folB l.steps i j (relP ps)
            · rw [h2] at CA
              have HF := Lib.hid (show bisB l ps = false from HNO.out (by rw [h2]; rfl))
              clear h2
              refine wp_region_quiet_below (by kernel_rfl) (by kernel_rfl) ?_
              refine quiet_cut 33 (fun K33 k33 => ?_)
              simp only [List.take_succ_cons, List.take_zero, List.drop_succ_cons, List.drop_zero] at k33 ⊢
              refine quiet_cut 32 (fun K32 k32 => ?_)
              simp only [List.take_succ_cons, List.take_zero, List.drop_succ_cons, List.drop_zero] at k32 ⊢
              refine quiet_cut 31 (fun K31 k31 => ?_)
              simp only [List.take_succ_cons, List.take_zero, List.drop_succ_cons, List.drop_zero] at k31 ⊢
              refine quiet_cut 30 (fun K30 k30 => ?_)
              simp only [List.take_succ_cons, List.take_zero, List.drop_succ_cons, List.drop_zero] at k30 ⊢
              refine quiet_cut 29 (fun K29 k29 => ?_)
              simp only [List.take_succ_cons, List.take_zero, List.drop_succ_cons, List.drop_zero] at k29 ⊢
              refine quiet_cut 28 (fun K28 k28 => ?_)
              simp only [List.take_succ_cons, List.take_zero, List.drop_succ_cons, List.drop_zero] at k28 ⊢
              refine quiet_cut 27 (fun K27 k27 => ?_)
              simp only [List.take_succ_cons, List.take_zero, List.drop_succ_cons, List.drop_zero] at k27 ⊢
              refine quiet_cut 26 (fun K26 k26 => ?_)
              simp only [List.take_succ_cons, List.take_zero, List.drop_succ_cons, List.drop_zero] at k26 ⊢
              refine quiet_cut 25 (fun K25 k25 => ?_)
              simp only [List.take_succ_cons, List.take_zero, List.drop_succ_cons, List.drop_zero] at k25 ⊢
              refine quiet_cut 24 (fun K24 k24 => ?_)
              simp only [List.take_succ_cons, List.take_zero, List.drop_succ_cons, List.drop_zero] at k24 ⊢
              refine quiet_cut 23 (fun K23 k23 => ?_)
              simp only [List.take_succ_cons, List.take_zero, List.drop_succ_cons, List.drop_zero] at k23 ⊢
              refine quiet_cut 22 (fun K22 k22 => ?_)
              simp only [List.take_succ_cons, List.take_zero, List.drop_succ_cons, List.drop_zero] at k22 ⊢
              refine quiet_cut 21 (fun K21 k21 => ?_)
              simp only [List.take_succ_cons, List.take_zero, List.drop_succ_cons, List.drop_zero] at k21 ⊢
              refine quiet_cut 20 (fun K20 k20 => ?_)
              simp only [List.take_succ_cons, List.take_zero, List.drop_succ_cons, List.drop_zero] at k20 ⊢
              refine quiet_cut 19 (fun K19 k19 => ?_)
              simp only [List.take_succ_cons, List.take_zero, List.drop_succ_cons, List.drop_zero] at k19 ⊢
              refine quiet_cut 18 (fun K18 k18 => ?_)
              simp only [List.take_succ_cons, List.take_zero, List.drop_succ_cons, List.drop_zero] at k18 ⊢
              refine quiet_cut 17 (fun K17 k17 => ?_)
              simp only [List.take_succ_cons, List.take_zero, List.drop_succ_cons, List.drop_zero] at k17 ⊢
              refine quiet_cut 16 (fun K16 k16 => ?_)
              simp only [List.take_succ_cons, List.take_zero, List.drop_succ_cons, List.drop_zero] at k16 ⊢
              refine quiet_cut 15 (fun K15 k15 => ?_)
              simp only [List.take_succ_cons, List.take_zero, List.drop_succ_cons, List.drop_zero] at k15 ⊢
              refine quiet_cut 14 (fun K14 k14 => ?_)
              simp only [List.take_succ_cons, List.take_zero, List.drop_succ_cons, List.drop_zero] at k14 ⊢
              quiet_step (exact CS.out _ _)
              quiet_step (exact CS.out _ _)
              quiet_step (exact CS.out _ _)
              quiet_step (exact CS.out _ _)
              quiet_step (exact CS.out _ _)
              quiet_step (exact CS.out _ _)
              quiet_step (exact CS.out _ _)
              quiet_step (exact CS.out _ _)
              quiet_step (exact CS.out _ _)
              quiet_step (exact CS.out _ _)
              quiet_step (exact CS.out _ _)
              quiet_step (exact CS.out _ _)
              quiet_step (exact CS.out _ _)
              quiet_step (exact CS.out _ _)
              refine wpQuiet_nil ?_
              refine k14 _ ?_
              quiet_step (exact CS.out _ _)
              refine wpQuiet_nil ?_
              refine k15 _ ?_
              quiet_step (exact CA.out _ _)
              refine wpQuiet_nil ?_
              refine k16 _ ?_
              quiet_step (exact CA.out _ _)
              refine wpQuiet_nil ?_
              refine k17 _ ?_
              quiet_step (exact CA.out _ _)
              refine wpQuiet_nil ?_
              refine k18 _ ?_
              quiet_step (exact CA.out _ _)
              refine wpQuiet_nil ?_
              refine k19 _ ?_
              quiet_step (exact CA.out _ _)
              refine wpQuiet_nil ?_
              refine k20 _ ?_
              quiet_step (exact CA.out _ _)
              refine wpQuiet_nil ?_
              refine k21 _ ?_
              quiet_step (exact CA.out _ _)
              refine wpQuiet_nil ?_
              refine k22 _ ?_
              quiet_step (exact CA.out _ _)
              refine wpQuiet_nil ?_
              refine k23 _ ?_
              quiet_step (exact CA.out _ _)
              refine wpQuiet_nil ?_
              refine k24 _ ?_
              quiet_step (exact CB.out _ _)
              refine wpQuiet_nil ?_
              refine k25 _ ?_
              quiet_step (exact CB.out _ _)
              refine wpQuiet_nil ?_
              refine k26 _ ?_
              quiet_step (exact CB.out _ _)
              refine wpQuiet_nil ?_
              refine k27 _ ?_
              quiet_step (exact CB.out _ _)
              refine wpQuiet_nil ?_
              refine k28 _ ?_
              quiet_step (exact CB.out _ _)
              refine wpQuiet_nil ?_
              refine k29 _ ?_
              quiet_step (exact CB.out _ _)
              refine wpQuiet_nil ?_
              refine k30 _ ?_
              quiet_step (exact CB.out _ _)
              refine wpQuiet_nil ?_
              refine k31 _ ?_
              quiet_step (exact CB.out _ _)
              refine wpQuiet_nil ?_
              refine k32 _ ?_
              quiet_step (exact CB.out _ _)
              refine wpQuiet_nil ?_
              refine k33 _ ?_
              quiet_step (exact CB.out _ _)
              refine wpQuiet_nil ?_
              intro wG hw'
              have hbG : Below wA.heap.size wA wG := by
                obtain ⟨pG, rfl⟩ := hw'
                exact below_regrown _ _ _
              clear hw'
              have HZG := Lib.hid (HZQA.out.trans (hbG.mono HZQA.out.size))
              clear hbG x0 x1 ci ck z0 z1
              go_wp2_with fail
              go_ret2
              exact ⟨by rw [HF.out]; rfl, HZG.out⟩
            · rw [h2, Bool.true_and] at HAT HNO
              rw [h2] at CA
              clear h2
              cases h3 : folB l.steps j i (fun y x => relP ps x y)
              · rw [h3] at CB
                have HF := Lib.hid (show bisB l ps = false from HNO.out h3)
                clear h3
                refine wp_region_quiet_below (by kernel_rfl) (by kernel_rfl) ?_
                refine quiet_cut 33 (fun K33 k33 => ?_)
                simp only [List.take_succ_cons, List.take_zero, List.drop_succ_cons, List.drop_zero] at k33 ⊢
                refine quiet_cut 32 (fun K32 k32 => ?_)
                simp only [List.take_succ_cons, List.take_zero, List.drop_succ_cons, List.drop_zero] at k32 ⊢
                refine quiet_cut 31 (fun K31 k31 => ?_)
                simp only [List.take_succ_cons, List.take_zero, List.drop_succ_cons, List.drop_zero] at k31 ⊢
                refine quiet_cut 30 (fun K30 k30 => ?_)
                simp only [List.take_succ_cons, List.take_zero, List.drop_succ_cons, List.drop_zero] at k30 ⊢
                refine quiet_cut 29 (fun K29 k29 => ?_)
                simp only [List.take_succ_cons, List.take_zero, List.drop_succ_cons, List.drop_zero] at k29 ⊢
                refine quiet_cut 28 (fun K28 k28 => ?_)
                simp only [List.take_succ_cons, List.take_zero, List.drop_succ_cons, List.drop_zero] at k28 ⊢
                refine quiet_cut 27 (fun K27 k27 => ?_)
                simp only [List.take_succ_cons, List.take_zero, List.drop_succ_cons, List.drop_zero] at k27 ⊢
                refine quiet_cut 26 (fun K26 k26 => ?_)
                simp only [List.take_succ_cons, List.take_zero, List.drop_succ_cons, List.drop_zero] at k26 ⊢
                refine quiet_cut 25 (fun K25 k25 => ?_)
                simp only [List.take_succ_cons, List.take_zero, List.drop_succ_cons, List.drop_zero] at k25 ⊢
                refine quiet_cut 24 (fun K24 k24 => ?_)
                simp only [List.take_succ_cons, List.take_zero, List.drop_succ_cons, List.drop_zero] at k24 ⊢
                refine quiet_cut 23 (fun K23 k23 => ?_)
                simp only [List.take_succ_cons, List.take_zero, List.drop_succ_cons, List.drop_zero] at k23 ⊢
                refine quiet_cut 22 (fun K22 k22 => ?_)
                simp only [List.take_succ_cons, List.take_zero, List.drop_succ_cons, List.drop_zero] at k22 ⊢
                refine quiet_cut 21 (fun K21 k21 => ?_)
                simp only [List.take_succ_cons, List.take_zero, List.drop_succ_cons, List.drop_zero] at k21 ⊢
                refine quiet_cut 20 (fun K20 k20 => ?_)
                simp only [List.take_succ_cons, List.take_zero, List.drop_succ_cons, List.drop_zero] at k20 ⊢
                refine quiet_cut 19 (fun K19 k19 => ?_)
                simp only [List.take_succ_cons, List.take_zero, List.drop_succ_cons, List.drop_zero] at k19 ⊢
                refine quiet_cut 18 (fun K18 k18 => ?_)
                simp only [List.take_succ_cons, List.take_zero, List.drop_succ_cons, List.drop_zero] at k18 ⊢
                refine quiet_cut 17 (fun K17 k17 => ?_)
                simp only [List.take_succ_cons, List.take_zero, List.drop_succ_cons, List.drop_zero] at k17 ⊢
                refine quiet_cut 16 (fun K16 k16 => ?_)
                simp only [List.take_succ_cons, List.take_zero, List.drop_succ_cons, List.drop_zero] at k16 ⊢
                refine quiet_cut 15 (fun K15 k15 => ?_)
                simp only [List.take_succ_cons, List.take_zero, List.drop_succ_cons, List.drop_zero] at k15 ⊢
                refine quiet_cut 14 (fun K14 k14 => ?_)
                simp only [List.take_succ_cons, List.take_zero, List.drop_succ_cons, List.drop_zero] at k14 ⊢
                quiet_step (exact CS.out _ _)
                quiet_step (exact CS.out _ _)
                quiet_step (exact CS.out _ _)
                quiet_step (exact CS.out _ _)
                quiet_step (exact CS.out _ _)
                quiet_step (exact CS.out _ _)
                quiet_step (exact CS.out _ _)
                quiet_step (exact CS.out _ _)
                quiet_step (exact CS.out _ _)
                quiet_step (exact CS.out _ _)
                quiet_step (exact CS.out _ _)
                quiet_step (exact CS.out _ _)
                quiet_step (exact CS.out _ _)
                quiet_step (exact CS.out _ _)
                refine wpQuiet_nil ?_
                refine k14 _ ?_
                quiet_step (exact CS.out _ _)
                refine wpQuiet_nil ?_
                refine k15 _ ?_
                quiet_step (exact CA.out _ _)
                refine wpQuiet_nil ?_
                refine k16 _ ?_
                quiet_step (exact CA.out _ _)
                refine wpQuiet_nil ?_
                refine k17 _ ?_
                quiet_step (exact CA.out _ _)
                refine wpQuiet_nil ?_
                refine k18 _ ?_
                quiet_step (exact CA.out _ _)
                refine wpQuiet_nil ?_
                refine k19 _ ?_
                quiet_step (exact CA.out _ _)
                refine wpQuiet_nil ?_
                refine k20 _ ?_
                quiet_step (exact CA.out _ _)
                refine wpQuiet_nil ?_
                refine k21 _ ?_
                quiet_step (exact CA.out _ _)
                refine wpQuiet_nil ?_
                refine k22 _ ?_
                quiet_step (exact CA.out _ _)
                refine wpQuiet_nil ?_
                refine k23 _ ?_
                quiet_step (exact CA.out _ _)
                refine wpQuiet_nil ?_
                refine k24 _ ?_
                quiet_step (exact CB.out _ _)
                refine wpQuiet_nil ?_
                refine k25 _ ?_
                quiet_step (exact CB.out _ _)
                refine wpQuiet_nil ?_
                refine k26 _ ?_
                quiet_step (exact CB.out _ _)
                refine wpQuiet_nil ?_
                refine k27 _ ?_
                quiet_step (exact CB.out _ _)
                refine wpQuiet_nil ?_
                refine k28 _ ?_
                quiet_step (exact CB.out _ _)
                refine wpQuiet_nil ?_
                refine k29 _ ?_
                quiet_step (exact CB.out _ _)
                refine wpQuiet_nil ?_
                refine k30 _ ?_
                quiet_step (exact CB.out _ _)
                refine wpQuiet_nil ?_
                refine k31 _ ?_
                quiet_step (exact CB.out _ _)
                refine wpQuiet_nil ?_
                refine k32 _ ?_
                quiet_step (exact CB.out _ _)
                refine wpQuiet_nil ?_
                refine k33 _ ?_
                quiet_step (exact CB.out _ _)
                refine wpQuiet_nil ?_
                intro wG hw'
                have hbG : Below wA.heap.size wA wG := by
                  obtain ⟨pG, rfl⟩ := hw'
                  exact below_regrown _ _ _
                clear hw'
                have HZG := Lib.hid (HZQA.out.trans (hbG.mono HZQA.out.size))
                clear hbG x0 x1 ci ck z0 z1
                go_wp2_with fail
                go_ret2
                exact ⟨by rw [HF.out]; rfl, HZG.out⟩
              · rw [h3] at CB
                have HA2 := Lib.hid (show (ps.take (k + 1)).all (bisP l (relP ps)) = true by rw [HAT.out, h3])
                clear h3
                refine wp_region_quiet_below (by kernel_rfl) (by kernel_rfl) ?_
                refine quiet_cut 33 (fun K33 k33 => ?_)
                simp only [List.take_succ_cons, List.take_zero, List.drop_succ_cons, List.drop_zero] at k33 ⊢
                refine quiet_cut 32 (fun K32 k32 => ?_)
                simp only [List.take_succ_cons, List.take_zero, List.drop_succ_cons, List.drop_zero] at k32 ⊢
                refine quiet_cut 31 (fun K31 k31 => ?_)
                simp only [List.take_succ_cons, List.take_zero, List.drop_succ_cons, List.drop_zero] at k31 ⊢
                refine quiet_cut 30 (fun K30 k30 => ?_)
                simp only [List.take_succ_cons, List.take_zero, List.drop_succ_cons, List.drop_zero] at k30 ⊢
                refine quiet_cut 29 (fun K29 k29 => ?_)
                simp only [List.take_succ_cons, List.take_zero, List.drop_succ_cons, List.drop_zero] at k29 ⊢
                refine quiet_cut 28 (fun K28 k28 => ?_)
                simp only [List.take_succ_cons, List.take_zero, List.drop_succ_cons, List.drop_zero] at k28 ⊢
                refine quiet_cut 27 (fun K27 k27 => ?_)
                simp only [List.take_succ_cons, List.take_zero, List.drop_succ_cons, List.drop_zero] at k27 ⊢
                refine quiet_cut 26 (fun K26 k26 => ?_)
                simp only [List.take_succ_cons, List.take_zero, List.drop_succ_cons, List.drop_zero] at k26 ⊢
                refine quiet_cut 25 (fun K25 k25 => ?_)
                simp only [List.take_succ_cons, List.take_zero, List.drop_succ_cons, List.drop_zero] at k25 ⊢
                refine quiet_cut 24 (fun K24 k24 => ?_)
                simp only [List.take_succ_cons, List.take_zero, List.drop_succ_cons, List.drop_zero] at k24 ⊢
                refine quiet_cut 23 (fun K23 k23 => ?_)
                simp only [List.take_succ_cons, List.take_zero, List.drop_succ_cons, List.drop_zero] at k23 ⊢
                refine quiet_cut 22 (fun K22 k22 => ?_)
                simp only [List.take_succ_cons, List.take_zero, List.drop_succ_cons, List.drop_zero] at k22 ⊢
                refine quiet_cut 21 (fun K21 k21 => ?_)
                simp only [List.take_succ_cons, List.take_zero, List.drop_succ_cons, List.drop_zero] at k21 ⊢
                refine quiet_cut 20 (fun K20 k20 => ?_)
                simp only [List.take_succ_cons, List.take_zero, List.drop_succ_cons, List.drop_zero] at k20 ⊢
                refine quiet_cut 19 (fun K19 k19 => ?_)
                simp only [List.take_succ_cons, List.take_zero, List.drop_succ_cons, List.drop_zero] at k19 ⊢
                refine quiet_cut 18 (fun K18 k18 => ?_)
                simp only [List.take_succ_cons, List.take_zero, List.drop_succ_cons, List.drop_zero] at k18 ⊢
                refine quiet_cut 17 (fun K17 k17 => ?_)
                simp only [List.take_succ_cons, List.take_zero, List.drop_succ_cons, List.drop_zero] at k17 ⊢
                refine quiet_cut 16 (fun K16 k16 => ?_)
                simp only [List.take_succ_cons, List.take_zero, List.drop_succ_cons, List.drop_zero] at k16 ⊢
                refine quiet_cut 15 (fun K15 k15 => ?_)
                simp only [List.take_succ_cons, List.take_zero, List.drop_succ_cons, List.drop_zero] at k15 ⊢
                refine quiet_cut 14 (fun K14 k14 => ?_)
                simp only [List.take_succ_cons, List.take_zero, List.drop_succ_cons, List.drop_zero] at k14 ⊢
                quiet_step (exact CS.out _ _)
                quiet_step (exact CS.out _ _)
                quiet_step (exact CS.out _ _)
                quiet_step (exact CS.out _ _)
                quiet_step (exact CS.out _ _)
                quiet_step (exact CS.out _ _)
                quiet_step (exact CS.out _ _)
                quiet_step (exact CS.out _ _)
                quiet_step (exact CS.out _ _)
                quiet_step (exact CS.out _ _)
                quiet_step (exact CS.out _ _)
                quiet_step (exact CS.out _ _)
                quiet_step (exact CS.out _ _)
                quiet_step (exact CS.out _ _)
                refine wpQuiet_nil ?_
                refine k14 _ ?_
                quiet_step (exact CS.out _ _)
                refine wpQuiet_nil ?_
                refine k15 _ ?_
                quiet_step (exact CA.out _ _)
                refine wpQuiet_nil ?_
                refine k16 _ ?_
                quiet_step (exact CA.out _ _)
                refine wpQuiet_nil ?_
                refine k17 _ ?_
                quiet_step (exact CA.out _ _)
                refine wpQuiet_nil ?_
                refine k18 _ ?_
                quiet_step (exact CA.out _ _)
                refine wpQuiet_nil ?_
                refine k19 _ ?_
                quiet_step (exact CA.out _ _)
                refine wpQuiet_nil ?_
                refine k20 _ ?_
                quiet_step (exact CA.out _ _)
                refine wpQuiet_nil ?_
                refine k21 _ ?_
                quiet_step (exact CA.out _ _)
                refine wpQuiet_nil ?_
                refine k22 _ ?_
                quiet_step (exact CA.out _ _)
                refine wpQuiet_nil ?_
                refine k23 _ ?_
                quiet_step (exact CA.out _ _)
                refine wpQuiet_nil ?_
                refine k24 _ ?_
                quiet_step (exact CB.out _ _)
                refine wpQuiet_nil ?_
                refine k25 _ ?_
                quiet_step (exact CB.out _ _)
                refine wpQuiet_nil ?_
                refine k26 _ ?_
                quiet_step (exact CB.out _ _)
                refine wpQuiet_nil ?_
                refine k27 _ ?_
                quiet_step (exact CB.out _ _)
                refine wpQuiet_nil ?_
                refine k28 _ ?_
                quiet_step (exact CB.out _ _)
                refine wpQuiet_nil ?_
                refine k29 _ ?_
                quiet_step (exact CB.out _ _)
                refine wpQuiet_nil ?_
                refine k30 _ ?_
                quiet_step (exact CB.out _ _)
                refine wpQuiet_nil ?_
                refine k31 _ ?_
                quiet_step (exact CB.out _ _)
                refine wpQuiet_nil ?_
                refine k32 _ ?_
                quiet_step (exact CB.out _ _)
                refine wpQuiet_nil ?_
                refine k33 _ ?_
                quiet_step (exact CB.out _ _)
                refine wpQuiet_nil ?_
                intro wG hw'
                have hbG : Below wA.heap.size wA wG := by
                  obtain ⟨pG, rfl⟩ := hw'
                  exact below_regrown _ _ _
                clear hw'
                have HZG := Lib.hid (HZ4A.out.trans (hbG.mono HZ4A.out.size))
                clear hbG x0 x1 ci ck z0 z1
                go_wp2_with fail
                go_roundw
                case rel => exact ⟨k + 1, by omega, by go_num, HA2.out, HZG.out⟩
                case measure => simp [intOf]; omega
        · obtain rfl : k = ps.length := by omega
          rw [List.take_length] at HALL
          have HF := Lib.hid (show bisB l ps = true from HALL.out)
          clear hall hbel hzq
          go_wp2_with fail
          go_ret2
          exact ⟨by rw [HF.out]; rfl, HZQ.out⟩

end Go.Proofs.YtdgnhfhaaghoaaaGreatDoor
