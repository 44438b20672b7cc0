/- Labelled systems: IsSimulated of the program walked. -/
import Derived.Test.YtdgnhfhaaghoaaaGreatDoorProg
import Derived.Test.YtdgnhfhaaghoaaaGreatDoorJ39
import Derived.Test.YtdgnhfhaaghoaaaGreatDoorJ33
set_option linter.unusedSimpArgs false
set_option linter.unusedVariables false
namespace Go.Proofs.YtdgnhfhaaghoaaaGreatDoor
open Go.RowKit

theorem zeroB (w : World) : (zeroValue 4).run Tryz.prog w = .ok (.bool false) w := by kernel_rfl

theorem inS_nat {i : Nat} (h : i ≤ 1000) : InS (i : Int) := ⟨by omega, by omega⟩

set_option maxRecDepth 100000 in
set_option maxHeartbeats 1000000 in
theorem simClosure_any (P M : Nat) (dm r : Int → Int → Bool) (x y : Int) (w : World) (hP : w.cell? ⟨P, 0, none⟩ = some (.map (some M))) (hM : BRel w M dm r) (hx : InS x) (hy : InS y) :
    Calls Tryz.prog 117 #[.int .i64 x, .int .i64 y, .pointer (some ⟨P, 0, none⟩)] w fun e w' => e = .returned (.bool (r x y)) ∧ Below w.heap.size w w' := by
  have hlk : (Instr.lookup 114 (.map (some M)) (.agg #[.int .i64 x, .int .i64 y]) false).run Tryz.prog w = .ok (.bool (r x y)) w := run_look pairKey Tryz.underlying114 (zeroB w) hM hx hy
  go_enter Tryz.func117, Tryz.ntmps117
  go_wp2_with fail
  go_ret
  exact ⟨rfl, Below.refl _ _⟩

theorem relF_set {n : Nat} {f : Nat → Nat → Bool} {i j : Nat} (b : Bool) (hi : i < n) (hj : j < n) : setB (relF n f) i j b = relF n (setN f i j b) := by
  funext x y
  unfold setB relF setN inR
  by_cases e : x = (i : Int) ∧ y = (j : Int)
  · obtain ⟨rfl, rfl⟩ := e
    simp [hi, hj, Int.natCast_nonneg]
  · rw [if_neg e]
    by_cases hin : 0 ≤ x ∧ 0 ≤ y
    · have : ¬ (x.toNat = i ∧ y.toNat = j) := fun h => e ⟨by omega, by omega⟩
      rw [if_neg this]
    · have : (decide (0 ≤ x) && decide (x < (n : Int)) && (decide (0 ≤ y) && decide (y < (n : Int)))) = false := by
        rw [Bool.eq_false_iff]
        intro h
        simp only [Bool.and_eq_true, decide_eq_true_eq] at h
        omega
      rw [this, Bool.false_and, Bool.false_and]

/-- How many pairs of numbers below n there are in a map, read off the world. -/
noncomputable def readM (w : World) (b i j : Nat) : Bool := match w.heap[b]? with
  | some (.map es _) => @decide (∃ e ∈ es.toList, e.key = KV i j ∧ e.val = .bool true) (Classical.propDecidable _)
  | _ => false
noncomputable def cntM (n b : Nat) (w : World) : Nat := cntF n fun i j => readM w b i j
theorem readM_eq {w : World} {b : Nat} {dm r : Int → Int → Bool} (h : BRel w b dm r) (i j : Nat) : readM w b i j = r i j := by
  obtain ⟨es, clock, hb, hm⟩ := h
  unfold readM
  rw [hb, Bool.eq_iff_iff]
  simp only [decide_eq_true_eq]
  constructor
  · rintro ⟨e, he, h1, h2⟩
    obtain ⟨x, y, _, _, h3, h4⟩ := hm.ent e he
    obtain ⟨rfl, rfl⟩ := KV_inj (h3.symm.trans h1)
    rw [h4] at h2
    simpa using h2
  · intro hr
    have hd : dm i j = true := by
      cases hd : dm i j
      · rw [hm.off _ _ hd] at hr
        cases hr
      · rfl
    obtain ⟨e, he, h1⟩ := (hm.dom _ _).1 hd
    obtain ⟨x, y, _, _, h3, h4⟩ := hm.ent e he
    obtain ⟨rfl, rfl⟩ := KV_inj (h3.symm.trans h1)
    exact ⟨e, he, h1, by rw [h4, hr]⟩
theorem cntM_eq {w : World} {b : Nat} {dm r : Int → Int → Bool} (h : BRel w b dm r) (n : Nat) : cntM n b w = cntF n (fun i j => r i j) := by
  unfold cntM
  congr 1
  funext i j
  exact readM_eq h i j
theorem cntR_drop {n : Nat} {r : Int → Int → Bool} {i j : Nat} (hi : i < n) (hj : j < n) (h : r i j = true) : cntF n (fun a b => setB r i j false a b) < cntF n (fun a b => r a b) := by
  have e : (fun a b : Nat => setB r i j false a b) = setN (fun a b => r a b) i j false := by
    funext a b
    unfold setB setN
    by_cases hab : a = i ∧ b = j
    · obtain ⟨rfl, rfl⟩ := hab
      simp
    · rw [if_neg hab, if_neg (by omega)]
  rw [e]
  exact cnt_drop hi hj h

def yesF : Nat → Nat → Bool := fun _ _ => true

set_option maxRecDepth 100000 in
set_option maxHeartbeats 16000000 in
theorem implIsSimulated_any (v : Value) (l : Lab) (s t : Int) (w : World) (hs : SmallLab l) (hv : RLab w v l) :
    Calls Tryz.prog 51 #[v, .int .i64 s, .int .i64 t] w fun e w' => ∃ b, e = .returned (.tuple #[.bool b, .bool (okST l s t)]) ∧ SimSaid l s t b ∧ Below w.heap.size w w' := by
  have HV := Lib.hid (show ∀ W, Below w.heap.size w W → RLab W v l from fun W hb => hv.below hb)
  have HS := Lib.hid hs
  have HSH := Lib.hid hs.2.2
  have hs1 := hs.1
  have hal : ∀ o, Below w.heap.size w (w.alloc o) := fun o => (Below.refl _ _).alloc (Nat.le_refl _) o
  have HL := Lib.hid (fun W (hW : Below w.heap.size w W) => implIsLabelled_any v l W HS.out (HV.out W hW))
  have H := Lib.hid (fun W s (hW : Below w.heap.size w W) => isStateL_any v l s W HS.out (HV.out W hW))
  obtain ⟨sv, tv, rfl, hsv, htv⟩ := hv
  have HSV := Lib.hid (show ∀ W, Below w.heap.size w W → RSS W sv l.shows from fun W hb => hsv.below hb)
  obtain ⟨A, c, vs, rfl, hm, _, _, _⟩ := hsv
  obtain ⟨D, d, rfl, _, _⟩ := htv
  have HB := Lib.hid (hal (.cells #[.slice A l.shows.length c, .slice D l.steps.length d] 27))
  have HN := Lib.hid (show okST l s t = false → SimSaid l s t false from fun h => .inl ⟨h, rfl⟩)
  clear hal hs
  cases hg : goodLab l
  · have hok : okST l s t = false := by unfold okST; rw [hg]; rfl
    have HOK := Lib.hid hok
    rw [hok]
    have H1 := Lib.hid (HL.out _ HB.out)
    rw [hg] at H1
    clear hok
    go_enter Tryz.func51, Tryz.ntmps51
    go_wp2_with fail
    refine H1.out.mono ?_
    rintro e w1 ⟨rfl, hb1⟩
    have HZ := Lib.hid (HB.out.trans (hb1.mono HB.out.size))
    clear hb1
    go_wp2_with fail
    go_ret2
    exact ⟨false, rfl, HN.out HOK.out, HZ.out⟩
  have H1 := Lib.hid (HL.out _ HB.out)
  rw [hg] at H1
  cases h1 : stB l s
  · have hok : okST l s t = false := by unfold okST; rw [h1, Bool.and_false]; rfl
    have HOK := Lib.hid hok
    rw [hok]
    have H2 := Lib.hid (fun W (hW : Below w.heap.size w W) => H.out W s hW)
    rw [h1] at H2
    clear hok
    go_enter Tryz.func51, Tryz.ntmps51
    go_wp2_with fail
    refine H1.out.mono ?_
    rintro e w1 ⟨rfl, hb1⟩
    obtain ⟨bx, _⟩ := one_box hb1
    have x0 : w1.cell? ⟨w.heap.size, 0, none⟩ = some (.slice A l.shows.length c) := cell_of_row _ _ _ _ _ _ bx
    have x1 : w1.cell? ⟨w.heap.size, 1, none⟩ = some (.slice D l.steps.length d) := cell_of_row _ _ _ _ _ _ bx
    have HZ := Lib.hid (HB.out.trans (hb1.mono HB.out.size))
    clear hb1 bx
    go_wp2_with fail
    refine (H2.out _ HZ.out).mono ?_
    rintro e w2 ⟨rfl, hb2⟩
    have HZ2 := Lib.hid (HZ.out.trans (hb2.mono HZ.out.size))
    clear hb2 x0 x1
    go_wp2_with fail
    go_ret2
    exact ⟨false, rfl, HN.out HOK.out, HZ2.out⟩
  have H2 := Lib.hid (fun W (hW : Below w.heap.size w W) => H.out W s hW)
  rw [h1] at H2
  cases h2 : stB l t
  · have hok : okST l s t = false := by unfold okST; rw [h2, Bool.and_false]
    have HOK := Lib.hid hok
    rw [hok]
    have H3 := Lib.hid (fun W (hW : Below w.heap.size w W) => H.out W t hW)
    rw [h2] at H3
    clear hok
    go_enter Tryz.func51, Tryz.ntmps51
    go_wp2_with fail
    refine H1.out.mono ?_
    rintro e w1 ⟨rfl, hb1⟩
    obtain ⟨bx, _⟩ := one_box hb1
    have x0 : w1.cell? ⟨w.heap.size, 0, none⟩ = some (.slice A l.shows.length c) := cell_of_row _ _ _ _ _ _ bx
    have x1 : w1.cell? ⟨w.heap.size, 1, none⟩ = some (.slice D l.steps.length d) := cell_of_row _ _ _ _ _ _ bx
    have HZ := Lib.hid (HB.out.trans (hb1.mono HB.out.size))
    clear hb1 bx
    go_wp2_with fail
    refine (H2.out _ HZ.out).mono ?_
    rintro e w2 ⟨rfl, hb2⟩
    have HZ2 := Lib.hid (HZ.out.trans (hb2.mono HZ.out.size))
    have x0 := cell_below hb2 x0 (lt_of_cell x0)
    have x1 := cell_below hb2 x1 (lt_of_cell x1)
    clear hb2
    go_wp2_with fail
    refine (H3.out _ HZ2.out).mono ?_
    rintro e w3 ⟨rfl, hb3⟩
    have HZ3 := Lib.hid (HZ2.out.trans (hb3.mono HZ2.out.size))
    clear hb3 x0 x1
    go_wp2_with fail
    go_ret2
    exact ⟨false, rfl, HN.out HOK.out, HZ3.out⟩
  have hok : okST l s t = true := by unfold okST; rw [h2, h1, hg]; rfl
  have H3 := Lib.hid (fun W (hW : Below w.heap.size w W) => H.out W t hW)
  rw [h2] at H3
  obtain ⟨si, rfl, hsi⟩ := stB_true h1
  obtain ⟨ti, rfl, hti⟩ := stB_true h2
  have HOK := Lib.hid hok
  rw [hok]
  have hmm := @run_makeMap Tryz.prog
  have HIN := Lib.hid (lab_in hg)
  clear hok h1 h2 hg
  go_enter Tryz.func51, Tryz.ntmps51
  go_wp2_with fail
  refine H1.out.mono ?_
  rintro e w1 ⟨rfl, hb1⟩
  obtain ⟨bx, _⟩ := one_box hb1
  have x0 : w1.cell? ⟨w.heap.size, 0, none⟩ = some (.slice A l.shows.length c) := cell_of_row _ _ _ _ _ _ bx
  have x1 : w1.cell? ⟨w.heap.size, 1, none⟩ = some (.slice D l.steps.length d) := cell_of_row _ _ _ _ _ _ bx
  have HZ := Lib.hid (HB.out.trans (hb1.mono HB.out.size))
  clear hb1 bx
  go_wp2_with fail
  refine (H2.out _ HZ.out).mono ?_
  rintro e w2 ⟨rfl, hb2⟩
  have HZ2 := Lib.hid (HZ.out.trans (hb2.mono HZ.out.size))
  have x0 := cell_below hb2 x0 (lt_of_cell x0)
  have x1 := cell_below hb2 x1 (lt_of_cell x1)
  clear hb2
  go_wp2_with fail
  refine (H3.out _ HZ2.out).mono ?_
  rintro e w3 ⟨rfl, hb3⟩
  have HZ3 := Lib.hid (HZ2.out.trans (hb3.mono HZ2.out.size))
  have x0 := cell_below hb3 x0 (lt_of_cell x0)
  have x1 := cell_below hb3 x1 (lt_of_cell x1)
  clear hb3 H1 H2 H3 HL H HN HB HZ HZ2
  have hA1 : Below w3.heap.size w3 (w3.alloc (.map #[] 0)) := (Below.refl _ _).alloc (Nat.le_refl _) _
  have hA2 : Below w3.heap.size w3 ((w3.alloc (.map #[] 0)).alloc (.cells #[.map (some w3.heap.size)] 114)) := hA1.alloc hA1.size _
  have HX0 := Lib.hid x0
  have HX1 := Lib.hid x1
  have x0 := cell_below hA2 x0 (lt_of_cell x0)
  have hrel0 := brel_made w3
  have hp0 := heap_alloc_new (w3.alloc (.map #[] 0)) (.cells #[.map (some w3.heap.size)] 114)
  rw [World.size_alloc] at hp0
  have HP0 := Lib.hid hp0
  have HR0 := Lib.hid (show BRel ((w3.alloc (.map #[] 0)).alloc (.cells #[.map (some w3.heap.size)] 114)) w3.heap.size (relF l.shows.length (fillF yesF 0 0)) (relF l.shows.length (fillF (initP l) 0 0)) from by
    have e : ∀ f : Nat → Nat → Bool, relF l.shows.length (fillF f 0 0) = fun _ _ => false := fun f => by
      funext a b
      simp [relF, fillF]
    rw [e, e]
    exact hrel0.below ((Below.refl _ _).alloc (Nat.le_refl _) _) (Nat.le_refl _))
  have HA2 := Lib.hid hA2
  clear x1 hA1 hA2 hrel0 hp0
  go_wp2_with fail
  obtain ⟨M, hM⟩ : ∃ M, M = w3.heap.size := ⟨_, rfl⟩
  have HWM := Lib.hid (show w.heap.size < M from by rw [hM]; exact lt_of_cell HX0.out)
  rw [← hM] at HP0 HR0 HA2 ⊢
  have HMS := Lib.hid hM
  clear x0 hM
  go_loopw [33] (fun q wr => ∃ i : Nat, i ≤ l.shows.length ∧ q = .int .i64 i ∧ BRel wr M (relF l.shows.length (fillF yesF i 0)) (relF l.shows.length (fillF (initP l) i 0)) ∧ wr.heap[M + 1]? = some (.cells #[.map (some M)] 114) ∧ Below M w3 wr)
    (fun q _ => l.shows.length - (intOf q).toNat)
  case atStart => exact ⟨0, Nat.zero_le _, rfl, HR0.out, HP0.out, HA2.out⟩
  case round =>
    clear HR0 HP0 HA2
    obtain ⟨i, hi, rfl, hr, hp, hbel⟩ := hrel
    have HR := Lib.hid hr
    have HP := Lib.hid hp
    have HZ := Lib.hid hbel
    by_cases hlt : i < l.shows.length
    · have x0 := cell_below hbel HX0.out (by have := HWM.out; exact this)
      clear hr hp hbel
      go_wp2_with fail
      clear x0
      go_loopw [39] (fun q wr => ∃ k : Nat, k ≤ l.shows.length ∧ q = .int .i64 k ∧ BRel wr M (relF l.shows.length (fillF yesF i k)) (relF l.shows.length (fillF (initP l) i k)) ∧ wr.heap[M + 1]? = some (.cells #[.map (some M)] 114) ∧ Below M w3 wr)
        (fun q _ => l.shows.length - (intOf q).toNat)
      case atStart => exact ⟨0, Nat.zero_le _, rfl, HR.out, HP.out, HZ.out⟩
      case round =>
        clear HR HP HZ
        obtain ⟨k, hk, rfl, hr, hp, hbel⟩ := hrel
        have HR := Lib.hid hr
        have HP := Lib.hid hp
        have HZ := Lib.hid hbel
        by_cases hkt : k < l.shows.length
        · have x0 := cell_below hbel HX0.out (by have := HWM.out; exact this)
          have hbw : Below w.heap.size w wr := HZ3.out.trans (hbel.mono (by have := HWM.out; omega))
          obtain ⟨A', c', us, e, _, hul, hcu, hru⟩ := HSV.out wr hbw
          cases e
          have hil := hlt
          have hkl := hkt
          obtain ⟨sb, so, rfl, hcc⟩ := hcu.at_ (k := i) (by omega)
          have ci := hcc i _ (List.getElem?_eq_getElem (by omega))
          have ck := hcc k _ (List.getElem?_eq_getElem (by omega))
          obtain ⟨Ai, ai, ei, _, hAi⟩ := hru i _ _ (List.getElem?_eq_getElem (by omega)) (List.getElem?_eq_getElem hil)
          obtain ⟨Ak, ak, ek, _, hAk⟩ := hru k _ _ (List.getElem?_eq_getElem (by omega)) (List.getElem?_eq_getElem hkl)
          rw [ei] at ci
          rw [ek] at ck
          have hsi := HSH.out _ (List.getElem_mem hil)
          have hsk := HSH.out _ (List.getElem_mem hkl)
          have HIP := Lib.hid (fun W (hW : Below wr.heap.size wr W) => isPart_any Ai Ak ai ak _ _ W hsi hsk (hAi.below hW) (hAk.below hW))
          have hini : initP l i k = partB l.shows[i] l.shows[k] := by unfold initP; simp [List.getD, hil, hkl]
          have hF1 := fillF_set (initP l) i k
          rw [hini] at hF1
          have HF1 := Lib.hid hF1
          have HF2 := Lib.hid (show setN (fillF yesF i k) i k true = fillF yesF i (k + 1) from fillF_set yesF i k)
          have p0 : wr.cell? ⟨M + 1, 0, none⟩ = some (.map (some M)) := cell_of_row _ _ _ _ _ _ hp
          have hsb : sb < w.heap.size := by
            obtain ⟨_, _, us0, e0, _, hul0, hcu0, _⟩ := HSV.out w (Below.refl _ _)
            cases e0
            obtain ⟨b', o', e1, hcc0⟩ := hcu0.at_ (k := i) (by omega)
            cases e1
            exact lt_of_cell (hcc0 i _ (List.getElem?_eq_getElem (by omega)))
          have b0 : (0 : Int) ≤ (i : Int) := by omega
          have b1 : (i : Int) < (l.shows.length : Int) := by omega
          have b2 : (0 : Int) ≤ (k : Int) := by omega
          have b3 : (k : Int) < (l.shows.length : Int) := by omega
          have H40 := Lib.hid (HIN.out.most)
          have hwm := HWM.out
          clear hcc hru hcu ei ek hAi hAk hsi hsk hini hF1 hr hp hbel hul hbw
          generalize l.shows[i] = xi at *
          generalize l.shows[k] = xk at *
          have hS4 : ∀ W, Below wr.heap.size wr W → W.cell? ⟨M + 1, 0, none⟩ = some (.map (some M)) ∧ W.cell? ⟨w.heap.size, 0, none⟩ = some (.slice (some ⟨sb, so, none⟩) l.shows.length c) ∧ W.cell? ⟨sb, so + i, none⟩ = some (.slice Ai xi.length ai) ∧ W.cell? ⟨sb, so + k, none⟩ = some (.slice Ak xk.length ak) := fun W hW => ⟨cell_below hW p0 (lt_of_cell p0), cell_below hW x0 (lt_of_cell x0), cell_below hW ci (lt_of_cell ci), cell_below hW ck (lt_of_cell ck)⟩
          have HS4 := Lib.hid hS4
          have HPUT := Lib.hid (show ∀ W0, Below wr.heap.size wr W0 → ∃ W, (Instr.mapUpdate 114 (.map (some M)) (.agg #[.int .i64 i, .int .i64 k]) (.bool (partB xi xk))).run Tryz.prog W0 = .ok () W ∧ BRel W M (relF l.shows.length (fillF yesF i (k + 1))) (relF l.shows.length (fillF (initP l) i (k + 1))) ∧ W0.grownBy W (some M) ∧ W.cell? ⟨M + 1, 0, none⟩ = some (.map (some M)) ∧ W.cell? ⟨w.heap.size, 0, none⟩ = some (.slice (some ⟨sb, so, none⟩) l.shows.length c) ∧ W.cell? ⟨sb, so + i, none⟩ = some (.slice Ai xi.length ai) ∧ W.cell? ⟨sb, so + k, none⟩ = some (.slice Ak xk.length ak) from fun W0 hW0 => by
            obtain ⟨w5, hrun, hr5, hg5, hz5⟩ := brel_put pairKey Tryz.underlying114 (HR.out.below hW0 (Nat.le_refl _)) (inS_nat (i := i) (by have := H40.out; omega)) (inS_nat (i := k) (by have := H40.out; omega)) (partB xi xk)
            rw [relF_set _ hlt hkt, relF_set _ hlt hkt, HF1.out, HF2.out] at hr5
            obtain ⟨q1, q2, q3, q4⟩ := hS4 W0 hW0
            refine ⟨w5, hrun, hr5, hg5, ?_, ?_, ?_, ?_⟩
            · exact (World.cell?_of_block (hg5.block _ (lt_of_cell q1) (by intro e; simp at e))).trans q1
            · exact (World.cell?_of_block (hg5.block _ (lt_of_cell q2) (by intro e; simp at e; omega))).trans q2
            · exact (World.cell?_of_block (hg5.block _ (lt_of_cell q3) (by intro e; simp at e; omega))).trans q3
            · exact (World.cell?_of_block (hg5.block _ (lt_of_cell q4) (by intro e; simp at e; omega))).trans q4)
          clear hS4
          go_wp2_with fail
          go_region_held3 (fun W => W.cell? ⟨M + 1, 0, none⟩ = some (.map (some M)) ∧ W.cell? ⟨w.heap.size, 0, none⟩ = some (.slice (some ⟨sb, so, none⟩) l.shows.length c) ∧ W.cell? ⟨sb, so + i, none⟩ = some (.slice Ai xi.length ai) ∧ W.cell? ⟨sb, so + k, none⟩ = some (.slice Ak xk.length ak))
            (first | exact hS5 | exact HS4.out _ hw4 | go_keep)
            (first | (go_at_call 116; refine (HIP.out _ (by first | exact Below.refl _ _ | exact (Below.refl _ wr).drew)).mono ?_; rintro e w4 ⟨rfl, hw4'⟩; have hw4 : Below wr.heap.size wr w4 := ⟨hw4'.os, hw4'.tape, hw4'.output, hw4'.size, hw4'.block⟩; obtain ⟨w5, hrun, hr5, hg5, hS5⟩ := HPUT.out w4 hw4))
          have hws := HZ.out.size
          have hms := HMS.out
          have HP5 := Lib.hid ((hg5.block (M + 1) (by have := lt_of_cell p0; have := hw4.size; dsimp only at *; omega) (by simp)).trans ((hw4.block (M + 1) (by have := lt_of_cell p0; exact this)).trans HP.out))
          have HZ5 := Lib.hid ((HZ.out.trans (hw4.mono (by omega))).grown hg5 (by have := hw4.size; omega) (fun q hq => by cases hq; exact Nat.le_refl _))
          have HR5 := Lib.hid hr5
          clear hr5 hg5 hw4 hw4' hS5 hrun p0 x0 ci ck
          go_wp2_with fail
          go_roundw
          case rel => exact ⟨k + 1, by omega, by go_num, HR5.out, HP5.out, HZ5.out⟩
          case measure => simp [intOf]; omega
        · obtain rfl : k = l.shows.length := by omega
          have hr2 := HR.out
          rw [relF_congr (fillF_row (f := yesF) i), relF_congr (fillF_row (f := initP l) i)] at hr2
          have HR2 := Lib.hid hr2
          clear hr hp hbel hr2
          go_wp2_with fail
          go_roundw
          case rel => exact ⟨i + 1, by omega, by go_num, HR2.out, HP.out, HZ.out⟩
          case measure => simp [intOf]; omega
    · obtain rfl : i = l.shows.length := by omega
      have hr2 := HR.out
      rw [relF_congr (fillF_all (f := yesF)), relF_congr (fillF_all (f := initP l))] at hr2
      have HR2 := Lib.hid (show BRel wr M (relF l.shows.length yesF) (initI l) from hr2)
      clear hr hp hbel hr2 HR
      go_wp2_with fail
      go_loopw [11] (fun x wr => ∃ (b : Bool) (r : Int → Int → Bool), x = .bool b ∧ BRel wr M (relF l.shows.length yesF) r ∧ SimR l.shows.length l.steps (initI l) r ∧ (b = false → SimStable l.steps r) ∧ wr.heap[M + 1]? = some (.cells #[.map (some M)] 114) ∧ Below M w3 wr)
        (fun x wr => 2 * cntM l.shows.length M wr + tOf x)
      case atStart => exact ⟨true, initI l, rfl, HR2.out, sim_init, (fun h => by cases h), HP.out, HZ.out⟩
      case round =>
        clear HR2 HP HZ
        obtain ⟨b, r, rfl, hr, hsim, hst, hp, hbel⟩ := hrel
        have HR := Lib.hid hr
        have HSIM := Lib.hid hsim
        have HST := Lib.hid hst
        have HP := Lib.hid hp
        have HZ := Lib.hid hbel
        have p0 : wr.cell? ⟨M + 1, 0, none⟩ = some (.map (some M)) := cell_of_row _ _ _ _ _ _ hp
        cases b with
        | false =>
          have hlk : (Instr.lookup 114 (.map (some M)) (.agg #[.int .i64 si, .int .i64 ti]) false).run Tryz.prog wr = .ok (.bool (r si ti)) wr := run_look pairKey Tryz.underlying114 (zeroB wr) hr (inS_nat (by have := HIN.out.most; omega)) (inS_nat (by have := HIN.out.most; omega))
          have HRES := Lib.hid (show SimSaid l si ti (r si ti) from .inr ⟨HOK.out, r, hsim, hst rfl, rfl⟩)
          have HZE := Lib.hid (HZ3.out.trans (hbel.mono (by have := HMS.out; have := HZ3.out.size; omega)))
          clear hr hsim hst hp hbel
          cases hrb : r si ti
          · rw [hrb] at hlk HRES
            go_wp2_with fail
            go_ret2
            exact .inl ⟨rfl, HRES.out, HZE.out⟩
          · rw [hrb] at hlk HRES
            go_wp2_with fail
            go_ret2
            exact .inr ⟨rfl, HRES.out, HZE.out⟩
        | true =>
          obtain ⟨wi, cnt0, hrange, hrng, hbi, hszi⟩ := brng_start (P := Tryz.prog) Tryz.underlying114 hr
          have HCM := Lib.hid (cntM_eq hr l.shows.length)
          obtain ⟨m, hm⟩ : ∃ m, m = cntF l.shows.length (fun i j => r i j) := ⟨_, rfl⟩
          have HM := Lib.hid hm
          have HRNG := Lib.hid hrng
          have HBI := Lib.hid hbi
          have HCM2 := Lib.hid (show cntM l.shows.length M wr = m by rw [HCM.out, HM.out])
          obtain ⟨qi, hqi⟩ : ∃ qi, qi = wr.heap.size := ⟨_, rfl⟩
          have HQI := Lib.hid hqi
          have HQM := Lib.hid (show M ≤ qi by have := HZ.out.size; have := HMS.out; omega)
          rw [← hqi] at hrange HRNG
          have HPI := Lib.hid ((hbi.block (M + 1) (by have := lt_of_cell p0; exact this)).trans HP.out)
          have HZI := Lib.hid (HZ.out.trans (hbi.mono (by have := HZ.out.size; have := HMS.out; omega)))
          clear hr hsim hst hp hbel hrng hbi hm hqi
          go_wp2_with fail
          clear p0
          go_loopw [11] (fun x wr => ∃ (b : Bool) (r lft : Int → Int → Bool) (cnt : Nat), x = .bool b ∧ BRng wr M qi (relF l.shows.length yesF) r lft cnt ∧ SimR l.shows.length l.steps (initI l) r ∧ (b = false → ∀ a y, r a y = true → lft a y = false → folB l.steps a y r = true) ∧ cntF l.shows.length (fun i j => r i j) ≤ m ∧ (b = true → cntF l.shows.length (fun i j => r i j) < m) ∧ wr.heap[M + 1]? = some (.cells #[.map (some M)] 114) ∧ Below M w3 wr)
            (fun _ wr => wr.rangeLeft M qi)
          case atStart => exact ⟨false, r, _, _, rfl, HRNG.out, HSIM.out, (fun _ a y h1 h2 => by
            exfalso
            obtain ⟨es, clock, _, hmp⟩ := HR.out
            rw [hmp.off a y h2] at h1
            cases h1), (by rw [← HM.out]; exact Nat.le_refl _), (fun h => by cases h), HPI.out, HZI.out⟩
          case round =>
            clear HRNG HPI HZI HSIM HST HP HZ HR HBI
            obtain ⟨b, r, lft, cnt, rfl, hrng, hsim, hst, hle, hlt, hp, hbel⟩ := hrel
            have HSIM := Lib.hid hsim
            have HST := Lib.hid hst
            have HLE := Lib.hid hle
            have HLT := Lib.hid hlt
            have HP := Lib.hid hp
            have HZ := Lib.hid hbel
            have HRG := Lib.hid hrng
            have HLEFT := Lib.hid hrng.left
            rcases brng_next (P := Tryz.prog) hrng 0 with ⟨hnone, hnx⟩ | ⟨x, y, wn, cnt2, hx, hy, hlxy, hdxy, hnx, hrng2, hlt2, hgn, hszn, hent⟩
            · have HS2 := Lib.hid (show b = false → SimStable l.steps r from fun hb a y h => HST.out hb a y h (hnone a y))
              have HC2 := Lib.hid (cntM_eq hrng.rel l.shows.length)
              have HR2 := Lib.hid hrng.rel
              clear hsim hst hle hlt hp hbel hrng
              go_wp2_with fail
              go_roundw
              case rel => exact ⟨b, r, rfl, HR2.out, HSIM.out, HS2.out, HP.out, HZ.out⟩
              case measure =>
                rw [HC2.out, HCM2.out]
                have h1 := HLE.out
                have h2 := HLT.out
                cases b
                · show 2 * _ + 0 < 2 * m + 1
                  omega
                · have := h2 rfl
                  show 2 * _ + 1 < 2 * m + 1
                  omega
            · obtain ⟨i, j, rfl, rfl, hi, hj, _⟩ := relF_in hdxy
              have hql := hrng.ltq
              have hqm : M ≤ qi := HQM.out
              have HZN := Lib.hid (hbel.grown hgn (by have := hbel.size; have := HMS.out; omega) (fun q hq => by cases hq; exact hqm))
              have HRN := Lib.hid hrng2
              have hkv : (Instr.entry (.pointer (some ⟨qi, 0, none⟩))).run Tryz.prog wn = .ok (.tuple #[.agg #[.int .i64 i, .int .i64 j], .bool (r i j)]) wn := hent
              have hnx' : (Instr.next (.pointer (some ⟨qi, 0, none⟩)) false 0).run Tryz.prog wr = .ok (.tuple #[.bool true, .agg #[.int .i64 i, .int .i64 j], .bool (r i j)]) wn := hnx
              have hzn := HZN.out
              have hA : Below wn.heap.size wn (wn.alloc (.cells #[.int .i64 i, .int .i64 j] 66)) := (Below.refl _ _).alloc (Nat.le_refl _) _
              have hws : M ≤ wn.heap.size := by have := hzn.size; have := HMS.out; omega
              have HZA := Lib.hid (hzn.trans (hA.mono hws))
              have HRA := Lib.hid (hrng2.below hA (Nat.le_refl _))
              have hPn : wn.heap[M + 1]? = some (.cells #[.map (some M)] 114) := (hgn.block (M + 1) (Array.getElem?_eq_some_iff.1 HP.out).1 (fun e => by
                cases e
                obtain ⟨_, _, _, _, _, _, _, hqb, _⟩ := hrng
                rw [HP.out] at hqb
                cases hqb)).trans HP.out
              have HPA := Lib.hid ((hA.block (M + 1) (Array.getElem?_eq_some_iff.1 hPn).1).trans hPn)
              have hwm := HWM.out
              have x0 := cell_below HZA.out HX0.out hwm
              have x1 := cell_below HZA.out HX1.out hwm
              have hk := heap_alloc_new wn (.cells #[.int .i64 i, .int .i64 j] 66)
              rw [hszn] at hk
              have HK := Lib.hid hk
              have HII := Lib.hid (inS_nat (i := i) (by have := HIN.out.most; omega))
              have HIJ := Lib.hid (inS_nat (i := j) (by have := HIN.out.most; omega))
              have HD := Lib.hid hdxy
              have HFOL := Lib.hid (follows_any _ l i j InS r 117 #[.pointer (some ⟨M + 1, 0, none⟩)] (wn.alloc (.cells #[.int .i64 i, .int .i64 j] 66)) HS.out.2.1 (HV.out _ (HZ3.out.trans (HZA.out.mono (by omega))))
                (enter_of Tryz.func117 (by kernel_rfl) (by kernel_rfl)) (fun s hs => by
                  obtain ⟨⟨_, q, _, hq, _, hqn⟩, _, _⟩ := HIN.out.step s hs
                  rw [hq]
                  exact inS_nat (by have := HIN.out.most; omega)) (fun x y W hx hy hW => simClosure_any (M + 1) M (relF l.shows.length yesF) r x y W (cell_of_row _ _ _ _ _ _ ((hW.block (M + 1) (Array.getElem?_eq_some_iff.1 HPA.out).1).trans HPA.out)) (HRA.out.rel.below hW (Nat.le_refl _)) hx hy))
              have HLL := Lib.hid (show cnt2 < cnt from hlt2)
              have HSZN := Lib.hid hszn
              clear hsim hst hle hlt hp hbel hrng hent hnx hA hzn hPn hk hgn hrng2 hdxy hlt2 hx hy
              have HST3 := Lib.hid (show (r i j = true → folB l.steps i j r = true) → b = false → ∀ a y, r a y = true → setB lft i j false a y = false → folB l.steps a y r = true from fun h hb a y h1 h2 => by
                by_cases e : a = (i : Int) ∧ y = (j : Int)
                · obtain ⟨rfl, rfl⟩ := e
                  exact h h1
                · rw [setB_other e] at h2
                  exact HST.out hb a y h1 h2)
              cases hrij : r i j
              · rw [hrij] at hnx' hkv
                have HST4 := Lib.hid (HST3.out (fun h => by rw [hrij] at h; cases h))
                clear hrij x0 x1
                go_wp2_with fail
                go_roundw
                case rel => exact ⟨b, r, _, cnt2, rfl, HRA.out, HSIM.out, HST4.out, HLE.out, HLT.out, HPA.out, HZA.out⟩
                case measure =>
                  rw [HRA.out.left, HLEFT.out]
                  exact HLL.out
              · rw [hrij] at hnx' hkv
                cases hfol : folB l.steps i j r
                · rw [hfol] at HFOL
                  have hdr : setB r i j false = dropP r i j := by
                    funext a y
                    unfold setB dropP
                    by_cases e : a = (i : Int) ∧ y = (j : Int)
                    · obtain ⟨rfl, rfl⟩ := e
                      simp
                    · rw [if_neg e]
                      have : (a == (i : Int) && y == (j : Int)) = false := by
                        rw [Bool.eq_false_iff]
                        intro h
                        simp only [Bool.and_eq_true, beq_iff_eq] at h
                        exact e h
                      rw [this]
                      simp
                  have HSIM2 := Lib.hid (show SimR l.shows.length l.steps (initI l) (setB r i j false) by rw [hdr]; exact sim_drop HSIM.out hfol)
                  have HC2 := Lib.hid (cntR_drop hi hj hrij)
                  clear hrij hfol hdr HST3 HST HLT
                  go_wp2_with fail
                  refine HFOL.out.mono ?_
                  rintro e w6 ⟨rfl, hw6⟩
                  have hwA : M ≤ (wn.alloc (.cells #[.int .i64 i, .int .i64 j] 66)).heap.size := by rw [World.size_alloc]; omega
                  have hP6 := (hw6.block (M + 1) (Array.getElem?_eq_some_iff.1 HPA.out).1).trans HPA.out
                  have p6 : w6.cell? ⟨M + 1, 0, none⟩ = some (.map (some M)) := cell_of_row _ _ _ _ _ _ hP6
                  have hk6 := (hw6.block wr.heap.size (Array.getElem?_eq_some_iff.1 HK.out).1).trans HK.out
                  have k0 : w6.cell? ⟨wr.heap.size, 0, none⟩ = some (.int .i64 i) := cell_of_row _ _ _ _ _ _ hk6
                  have k1 : w6.cell? ⟨wr.heap.size, 1, none⟩ = some (.int .i64 j) := cell_of_row _ _ _ _ _ _ hk6
                  obtain ⟨w7, hrun, hr7, hg7, hz7⟩ := brng_put pairKey Tryz.underlying114 (HRA.out.below hw6 (Nat.le_refl _)) HII.out HIJ.out HD.out false
                  have hrun' : (Instr.mapUpdate 114 (.map (some M)) (.agg #[.int .i64 i, .int .i64 j]) (.bool false)).run Tryz.prog w6 = .ok () w7 := hrun
                  have HR7 := Lib.hid hr7
                  have HP7 := Lib.hid ((hg7.block (M + 1) (Array.getElem?_eq_some_iff.1 hP6).1 (by simp)).trans hP6)
                  have HZ7 := Lib.hid ((HZA.out.trans (hw6.mono hwA)).grown hg7 (by have := hw6.size; omega) (fun q hq => by cases hq; exact Nat.le_refl _))
                  clear hw6 hP6 hk6 hrun hr7 hg7 x0 x1
                  go_wp2_with fail
                  go_roundw
                  case rel => exact ⟨true, _, _, cnt2, rfl, HR7.out, HSIM2.out, (fun h => by cases h), (by have := HC2.out; have := HLE.out; omega), (fun _ => by have := HC2.out; have := HLE.out; omega), HP7.out, HZ7.out⟩
                  case measure =>
                    rw [HR7.out.left, HLEFT.out]
                    exact HLL.out
                · rw [hfol] at HFOL
                  have HST4 := Lib.hid (HST3.out (fun _ => hfol))
                  clear hrij hfol HST3 HST
                  go_wp2_with fail
                  refine HFOL.out.mono ?_
                  rintro e w6 ⟨rfl, hw6⟩
                  have hwA : M ≤ (wn.alloc (.cells #[.int .i64 i, .int .i64 j] 66)).heap.size := by rw [World.size_alloc]; omega
                  have HR6 := Lib.hid (HRA.out.below hw6 (Nat.le_refl _))
                  have HP6 := Lib.hid ((hw6.block (M + 1) (Array.getElem?_eq_some_iff.1 HPA.out).1).trans HPA.out)
                  have HZ6 := Lib.hid (HZA.out.trans (hw6.mono hwA))
                  clear hw6 x0 x1
                  go_wp2_with fail
                  go_roundw
                  case rel => exact ⟨b, r, _, cnt2, rfl, HR6.out, HSIM.out, HST4.out, HLE.out, HLT.out, HP6.out, HZ6.out⟩
                  case measure =>
                    rw [HR6.out.left, HLEFT.out]
                    exact HLL.out

end Go.Proofs.YtdgnhfhaaghoaaaGreatDoor
