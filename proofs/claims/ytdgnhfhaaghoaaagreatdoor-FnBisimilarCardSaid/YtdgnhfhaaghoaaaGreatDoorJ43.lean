/- Labelled systems: the reference's table of an action between silent ways, walked. -/
import Derived.Test.YtdgnhfhaaghoaaaGreatDoorProg
import Derived.Test.YtdgnhfhaaghoaaaGreatDoorJ42
set_option linter.unusedSimpArgs false
set_option linter.unusedVariables false
namespace Go.Proofs.YtdgnhfhaaghoaaaGreatDoor
open Go.RowKit

def hfF (F : Nat → Nat → Bool) (ss : List I3) (a : Int) (i k : Nat) : Bool := ss.any fun s => (s.2.1 == a) && F i s.1.toNat && (s.2.2 == (k : Int))
def hfP (F : Nat → Nat → Bool) (ss : List I3) (a : Int) (u z q : Nat) (i k : Nat) : Bool := hfF F ss a i k || (decide (i < q) && F i u && (k == z))
def wkR (H F : Nat → Nat → Bool) (m : Nat) (i j : Nat) : Bool := (List.range m).any fun k => H i k && F k j
def wkP (H F : Nat → Nat → Bool) (n i0 k0 j0 : Nat) (i j : Nat) : Bool := if i < i0 then wkR H F n i j else if i = i0 then wkR H F k0 i j || (decide (j < j0) && H i k0 && F k0 j) else false

theorem hf_take {F : Nat → Nat → Bool} {ss : List I3} {a : Int} {k : Nat} (h : k < ss.length) (i j : Nat) : hfF F (ss.take (k + 1)) a i j = (hfF F (ss.take k) a i j || ((ss[k].2.1 == a) && F i ss[k].1.toNat && (ss[k].2.2 == (j : Int)))) := by
  unfold hfF
  rw [List.take_succ_eq_append_getElem h, List.any_append]
  simp
theorem hf_skip {F : Nat → Nat → Bool} {ss : List I3} {a : Int} {k : Nat} (h : k < ss.length) (h0 : (ss[k].2.1 == a) = false) : hfF F (ss.take (k + 1)) a = hfF F (ss.take k) a := by
  funext i j
  rw [hf_take h, h0]
  simp
theorem hfP_zero {F : Nat → Nat → Bool} {ss : List I3} {a : Int} {u z : Nat} : hfP F ss a u z 0 = hfF F ss a := by
  funext i j
  unfold hfP
  simp
theorem hfP_true {F : Nat → Nat → Bool} {ss : List I3} {a : Int} {u z q : Nat} (h : F q u = true) : setN (hfP F ss a u z q) q z true = hfP F ss a u z (q + 1) := by
  funext i j
  unfold setN hfP
  by_cases e : i = q ∧ j = z
  · obtain ⟨rfl, rfl⟩ := e
    rw [if_pos ⟨rfl, rfl⟩]
    simp [h]
  · rw [if_neg e]
    congr 1
    by_cases e2 : i = q
    · subst e2
      have : (j == z) = false := by simpa using fun h => e ⟨rfl, h⟩
      rw [this, Bool.and_false, Bool.and_false]
    · have : decide (i < q) = decide (i < q + 1) := by rw [decide_eq_decide]; omega
      rw [this]
theorem hfP_false {F : Nat → Nat → Bool} {ss : List I3} {a : Int} {u z q : Nat} (h : F q u = false) : hfP F ss a u z (q + 1) = hfP F ss a u z q := by
  funext i j
  unfold hfP
  congr 1
  by_cases e2 : i = q
  · subst e2
    rw [h, Bool.and_false, Bool.and_false]
  · have : decide (i < q) = decide (i < q + 1) := by rw [decide_eq_decide]; omega
    rw [this]
theorem hfP_all {F : Nat → Nat → Bool} {ss : List I3} {a : Int} {u z k n : Nat} (h : k < ss.length) (h0 : (ss[k].2.1 == a) = true) (hu : ss[k].1 = (u : Int)) (hz : ss[k].2.2 = (z : Int)) : ∀ i j, i < n → j < n → hfP F (ss.take k) a u z n i j = hfF F (ss.take (k + 1)) a i j := by
  intro i j hi hj
  rw [hf_take h, h0, hu, hz]
  unfold hfP
  congr 1
  have e1 : decide (i < n) = true := by simpa using hi
  have e2 : ((z : Int) == (j : Int)) = (j == z) := by rw [Bool.eq_iff_iff]; simp; omega
  rw [e1, e2, Int.toNat_natCast]
theorem wkR_next {H F : Nat → Nat → Bool} {m i j : Nat} : wkR H F (m + 1) i j = (wkR H F m i j || (H i m && F m j)) := by
  unfold wkR
  rw [List.range_succ, List.any_append]
  simp
theorem wkP_start {H F : Nat → Nat → Bool} {n : Nat} (i j : Nat) : wkP H F n 0 0 0 i j = false := by
  unfold wkP wkR
  simp
theorem wkP_true {H F : Nat → Nat → Bool} {n i0 k0 j0 : Nat} (h1 : H i0 k0 = true) (h2 : F k0 j0 = true) : setN (wkP H F n i0 k0 j0) i0 j0 true = wkP H F n i0 k0 (j0 + 1) := by
  funext i j
  unfold setN wkP
  by_cases e : i = i0 ∧ j = j0
  · obtain ⟨rfl, rfl⟩ := e
    rw [if_pos ⟨rfl, rfl⟩, if_neg (by omega), if_pos rfl, h1, h2]
    simp
  · rw [if_neg e]
    by_cases e1 : i < i0
    · rw [if_pos e1, if_pos e1]
    · rw [if_neg e1, if_neg e1]
      by_cases e2 : i = i0
      · rw [if_pos e2, if_pos e2]
        have : decide (j < j0) = decide (j < j0 + 1) := by rw [decide_eq_decide]; have : ¬ j = j0 := fun h => e ⟨e2, h⟩; omega
        rw [this]
      · rw [if_neg e2, if_neg e2]
theorem wkP_false {H F : Nat → Nat → Bool} {n i0 k0 j0 : Nat} (h2 : F k0 j0 = false) : wkP H F n i0 k0 (j0 + 1) = wkP H F n i0 k0 j0 := by
  funext i j
  unfold wkP
  by_cases e1 : i < i0
  · rw [if_pos e1, if_pos e1]
  · rw [if_neg e1, if_neg e1]
    by_cases e2 : i = i0
    · rw [if_pos e2, if_pos e2]
      congr 1
      by_cases e3 : j = j0
      · rw [e3, h2, Bool.and_false, Bool.and_false]
      · have : decide (j < j0) = decide (j < j0 + 1) := by rw [decide_eq_decide]; omega
        rw [this]
    · rw [if_neg e2, if_neg e2]
theorem wkP_nextk {H F : Nat → Nat → Bool} {n i0 k0 : Nat} (h1 : H i0 k0 = true) : ∀ i j, i < n → j < n → wkP H F n i0 k0 n i j = wkP H F n i0 (k0 + 1) 0 i j := by
  intro i j hi hj
  unfold wkP
  by_cases e1 : i < i0
  · rw [if_pos e1, if_pos e1]
  · rw [if_neg e1, if_neg e1]
    by_cases e2 : i = i0
    · subst e2
      rw [if_pos rfl, if_pos rfl, wkR_next, h1]
      simp [hj]
    · rw [if_neg e2, if_neg e2]
theorem wkP_skipk {H F : Nat → Nat → Bool} {n i0 k0 : Nat} (h1 : H i0 k0 = false) : wkP H F n i0 k0 0 = wkP H F n i0 (k0 + 1) 0 := by
  funext i j
  unfold wkP
  by_cases e1 : i < i0
  · rw [if_pos e1, if_pos e1]
  · rw [if_neg e1, if_neg e1]
    by_cases e2 : i = i0
    · subst e2
      rw [if_pos rfl, if_pos rfl, wkR_next, h1]
      simp
    · rw [if_neg e2, if_neg e2]
theorem wkP_nexti {H F : Nat → Nat → Bool} {n i0 : Nat} : ∀ i j, i < n → j < n → wkP H F n i0 n 0 i j = wkP H F n (i0 + 1) 0 0 i j := by
  intro i j hi hj
  unfold wkP
  by_cases e1 : i < i0
  · rw [if_pos e1, if_pos (by omega)]
  · rw [if_neg e1]
    by_cases e2 : i = i0
    · subst e2
      rw [if_pos rfl, if_pos (by omega)]
      simp
    · rw [if_neg e2, if_neg (by omega)]
      split
      · unfold wkR; simp
      · rfl
theorem wkP_done {H F : Nat → Nat → Bool} {n : Nat} : ∀ i j, i < n → j < n → wkP H F n n 0 0 i j = wkR H F n i j := by
  intro i j hi hj
  unfold wkP
  rw [if_pos hi]

theorem TabB.set_other {w : World} {B g n : Nat} {R C : Nat → Nat} {f : Nat → Nat → Bool} (h : TabB w B g R C n f) {p : Addr} (hg : p.block ≠ g) (hR : ∀ i, i < n → p.block ≠ R i) (u : Value) : TabB (w.setCell p u) B g R C n f := by
  refine ⟨fun x hx => ?_, fun x y hx hy => ?_, h.lowg, h.low, h.inj⟩
  · rw [World.cell?_setCell_other _ _ _ _ (by intro e; rw [e] at hg; exact hg rfl)]
    exact h.outer x hx
  · obtain ⟨h1, h2⟩ := h.inner x y hx hy
    rw [World.frozen?_setCell]
    refine ⟨?_, h2⟩
    rw [World.cell?_setCell_other _ _ _ _ (by intro e; have := hR x hx; rw [e] at this; exact this rfl)]
    exact h1

set_option maxRecDepth 100000 in
set_option maxHeartbeats 16000000 in
theorem l11Weak_any (v : Value) (l : Lab) (a : Int) (gs cs Bs : Nat) (Rs Cs : Nat → Nat) (F : Nat → Nat → Bool) (w : World) (hn1 : 1 ≤ l.shows.length) (hn40 : l.shows.length ≤ 40) (hst : StepsN l.shows.length l.steps) (hv : RLab w v l) (hS : TabB w Bs gs Rs Cs l.shows.length F) :
    Calls Tryz.prog 163 #[v, .slice (some ⟨gs, 0, none⟩) l.shows.length cs, .int .i64 a] w fun e w' => ∃ g c R C, e = .returned (.slice (some ⟨g, 0, none⟩) l.shows.length c) ∧ TabB w' w.heap.size g R C l.shows.length (wkR (hfF F l.steps a) F l.shows.length) ∧ Below w.heap.size w w' := by
  have HST := Lib.hid hst
  obtain ⟨sv, tv, rfl, hsv, htv⟩ := hv
  have HTV := Lib.hid (show ∀ W, Below w.heap.size w W → RA3 W tv l.steps from fun W hb => htv.below hb)
  obtain ⟨A, c0, vs, rfl, hmA, _, _, _⟩ := hsv
  obtain ⟨D, d, rfl, hmD, _⟩ := htv
  obtain ⟨W0, hW0⟩ : ∃ W0, W0 = w.alloc (.cells #[.slice A l.shows.length c0, .slice D l.steps.length d] 27) := ⟨_, rfl⟩
  have hz0 : Below w.heap.size w W0 := by rw [hW0]; exact (Below.refl _ _).alloc (Nat.le_refl _) _
  have hs0 : W0.heap.size = w.heap.size + 1 := by rw [hW0]; simp
  have bx0 : W0.heap[w.heap.size]? = some (.cells #[.slice A l.shows.length c0, .slice D l.steps.length d] 27) := by rw [hW0]; exact heap_alloc_new _ _
  have HX := Lib.hid (show ∀ W, Below W0.heap.size W0 W → W.cell? ⟨w.heap.size, 0, none⟩ = some (.slice A l.shows.length c0) ∧ W.cell? ⟨w.heap.size, 1, none⟩ = some (.slice D l.steps.length d) from fun W hW => by
    have := (hW.block _ (by omega)).trans bx0
    exact ⟨cell_of_row _ _ _ _ _ _ this, cell_of_row _ _ _ _ _ _ this⟩)
  have HTV := Lib.hid (show ∀ W, Below W0.heap.size W0 W → RA3 W (.slice D l.steps.length d) l.steps from fun W hb => HTV.out W (hz0.trans (hb.mono hz0.size)))
  have HS := Lib.hid (show ∀ W, Below W0.heap.size W0 W → TabB W Bs gs Rs Cs l.shows.length F from fun W hb => hS.below (hz0.trans (hb.mono hz0.size)) (Nat.le_refl _))
  have HTB := Lib.hid (fun W => l11Table_any l.shows.length W hn1 hn40)
  have HZ0 := Lib.hid hz0
  obtain ⟨x0, x1⟩ := HX.out W0 (Below.refl _ _)
  have HW0 := Lib.hid hW0
  have hsz0 : w.heap.size ≤ W0.heap.size := by omega
  clear hst bx0 hz0 hs0 hW0 hS
  unfold maxLen at hmA hmD
  go_enter Tryz.func163, Tryz.ntmps163
  go_wp2_with fail
  rw [← HW0.out]
  go_wp2_with fail
  refine (HTB.out _).mono ?_
  rintro e w1 ⟨g, c, R, C, rfl, ht, hb1⟩
  have hup : ∀ i, i < l.shows.length → R i < w1.heap.size := fun i hi => lt_of_cell (ht.inner i 0 hi (by omega)).1
  have hupg : g < w1.heap.size := lt_of_cell (ht.outer 0 (by omega))
  have HUP := Lib.hid hup
  have HT := Lib.hid ht
  have HB := Lib.hid hb1
  have hs1 := hb1.size
  clear x0 x1 ht hb1 hup
  go_wp2_with fail
  refine (HTB.out _).mono ?_
  rintro e w2 ⟨g2, c2, R2, C2, rfl, ht2, hb2⟩
  have HLOW := Lib.hid (show ∀ i, i < l.shows.length → w1.heap.size ≤ R2 i from fun i hi => (ht2.low i hi).1)
  have hlowg := ht2.lowg
  have HT2 := Lib.hid ht2
  have HT := Lib.hid (HT.out.below hb2 (Nat.le_refl _))
  have HB := Lib.hid (HB.out.trans (hb2.mono hs1))
  clear ht2 hb2
  go_wp2_with fail
  go_loopw [10] (fun i wr => ∃ k : Nat, k ≤ l.steps.length ∧ i = .int .i64 k ∧ TabB wr W0.heap.size g R C l.shows.length (hfF F (l.steps.take k) a) ∧ TabB wr w1.heap.size g2 R2 C2 l.shows.length (fun _ _ => false) ∧ Below W0.heap.size W0 wr)
    (fun i _ => l.steps.length - (intOf i).toNat)
  case atStart => exact ⟨0, Nat.zero_le _, rfl, HT.out.congr (fun a b _ _ => by simp [hfF]), HT2.out, HB.out⟩
  case round =>
    clear HT HB HT2
    obtain ⟨k, hk, rfl, ht, ht2, hbel⟩ := hrel
    obtain ⟨x0, x1⟩ := HX.out wr hbel
    by_cases hkt : k < l.steps.length
    · obtain ⟨b, oo, c', e, h0, h1, h2⟩ := (HTV.out wr hbel).at_ (List.getElem?_eq_getElem hkt)
      cases e
      obtain ⟨u, z, hu, hz, hun, hzn⟩ := HST.out _ (List.getElem_mem hkt)
      have b0 : (0 : Int) ≤ (k : Int) := by omega
      have b1 : (k : Int) < (l.steps.length : Int) := by omega
      have bn : (0 : Int) < (l.shows.length : Int) := by omega
      rw [hu] at h0
      rw [hz] at h2
      have hta := Below.alloc (Below.refl wr.heap.size wr) (Nat.le_refl _) (.cells #[.int .i64 u, .int .i64 l.steps[k].2.1, .int .i64 z] 103)
      have HTA := Lib.hid (ht.below hta (Nat.le_refl _))
      have HT2A := Lib.hid (ht2.below hta (Nat.le_refl _))
      have HBA := Lib.hid (hbel.alloc hbel.size (.cells #[.int .i64 u, .int .i64 l.steps[k].2.1, .int .i64 z] 103))
      have HBX := Lib.hid (heap_alloc_new wr (.cells #[.int .i64 u, .int .i64 l.steps[k].2.1, .int .i64 z] 103))
      have hszr := hbel.size
      have hnb2 : w1.heap.size < wr.heap.size := by
        have e1 := lt_of_cell (ht2.outer 0 (by omega))
        dsimp only at e1
        omega
      clear ht ht2 hbel hta
      cases h00 : (l.steps[k].2.1 == a)
      · have HSK := Lib.hid (hf_skip (F := F) hkt h00)
        have q1 : (wr.alloc (.cells #[.int .i64 u, .int .i64 l.steps[k].2.1, .int .i64 z] 103)).cell? ⟨wr.heap.size, 1, none⟩ = some (.int .i64 l.steps[k].2.1) := cell_of_row _ _ _ _ _ _ HBX.out
        clear hu hz
        generalize l.steps[k].2.1 = y at *
        go_wp2_with fail
        go_loopw [12] (fun i W => i = .int .i64 0 ∧ W = wr.alloc (.cells #[.int .i64 u, .int .i64 y, .int .i64 z] 103)) (fun i _ => 0)
        case atStart => exact ⟨rfl, rfl⟩
        case round =>
          obtain ⟨rfl, rfl⟩ := hrel
          go_wp2_with fail
          go_roundw
          case rel => exact ⟨k + 1, by omega, by go_num, by rw [HSK.out]; exact HTA.out, HT2A.out, HBA.out⟩
          case measure => simp [intOf]; omega
      · have HPZ := Lib.hid (hfP_zero (F := F) (ss := l.steps.take k) (a := a) (u := u) (z := z))
        have HPA := Lib.hid (hfP_all (F := F) (n := l.shows.length) hkt h00 hu hz)
        have e0 : l.steps[k].2.1 = a := by simpa using h00
        rw [e0] at h1 HTA HT2A HBA HBX
        clear hu hz h00 e0
        generalize hHF : hfF F (l.steps.take k) a = H0 at *
        have HHF := Lib.hid hHF
        clear hHF
        have HNB := Lib.hid (show ∃ nb, nb = wr.heap.size from ⟨_, rfl⟩)
        obtain ⟨nb, hnb⟩ := HNB.out
        have HNB := Lib.hid hnb
        rw [← hnb] at HBX hnb2
        clear hnb
        go_wp2_with fail
        rw [← HNB.out]
        go_loopw [12] (fun i W => ∃ q : Nat, q ≤ l.shows.length ∧ i = .int .i64 q ∧ TabB W W0.heap.size g R C l.shows.length (hfP F (l.steps.take k) a u z q) ∧ TabB W w1.heap.size g2 R2 C2 l.shows.length (fun _ _ => false) ∧ Below W0.heap.size W0 W ∧ W.heap[nb]? = some (.cells #[.int .i64 u, .int .i64 a, .int .i64 z] 103))
          (fun i _ => l.shows.length - (intOf i).toNat)
        case atStart => exact ⟨0, Nat.zero_le _, rfl, by rw [HPZ.out]; exact HTA.out, HT2A.out, HBA.out, HBX.out⟩
        case round =>
          clear HTA HT2A HBA HBX x0 x1 h0 h1 h2 HNB
          obtain ⟨q, hq, rfl, ht, ht2, hbel, hbx⟩ := hrel
          have q0 : wr.cell? ⟨nb, 0, none⟩ = some (.int .i64 u) := cell_of_row _ _ _ _ _ _ hbx
          have q1 : wr.cell? ⟨nb, 1, none⟩ = some (.int .i64 a) := cell_of_row _ _ _ _ _ _ hbx
          have q2 : wr.cell? ⟨nb, 2, none⟩ = some (.int .i64 z) := cell_of_row _ _ _ _ _ _ hbx
          by_cases hqn : q < l.shows.length
          · have b2 : (0 : Int) ≤ (u : Int) := by omega
            have b3 : (u : Int) < (l.shows.length : Int) := by omega
            have b4 : (0 : Int) ≤ (z : Int) := by omega
            have b5 : (z : Int) < (l.shows.length : Int) := by omega
            have b6 : (0 : Int) ≤ (q : Int) := by omega
            have b7 : (q : Int) < (l.shows.length : Int) := by omega
            have hS := HS.out wr hbel
            have so := hS.outer q hqn
            obtain ⟨sn, _⟩ := hS.inner q u hqn hun
            have o1 := ht.outer q hqn
            obtain ⟨n1, n2⟩ := ht.inner q z hqn hzn
            have HT := Lib.hid (fun m => ht.below (below_drewN' (Below.refl _ wr) m) (Nat.le_refl _))
            have HT2 := Lib.hid (fun m => ht2.below (below_drewN' (Below.refl _ wr) m) (Nat.le_refl _))
            have HB := Lib.hid (fun m => below_drewN' hbel m)
            have HBX := Lib.hid (fun m => show (wr.drewN m).heap[nb]? = _ from hbx)
            have hRq := HUP.out q hqn
            have hRl := (ht.low q hqn).1
            clear ht ht2 hbel hbx hS
            cases hF : F q u
            · have HN := Lib.hid (hfP_false (ss := l.steps.take k) (a := a) (z := z) hF)
              rw [hF] at sn
              clear hF
              go_wp2_with fail
              go_quiet (fail)
              go_wp2_with fail
              go_roundw
              case rel => exact ⟨q + 1, by omega, by go_num, by rw [HN.out]; exact HT.out _, HT2.out _, HB.out _, HBX.out _⟩
              case measure => simp [intOf]; omega
            · have HN := Lib.hid (hfP_true (ss := l.steps.take k) (a := a) (z := z) hF)
              rw [hF] at sn
              clear hF
              have HTS := Lib.hid (fun m => ((HT.out m).set hqn hzn true))
              have HT2S := Lib.hid (fun m => ((HT2.out m).set_other (p := ⟨R q, z, none⟩) (by dsimp only; omega) (fun i hi => by have := HLOW.out i hi; dsimp only; omega) (.bool true)))
              have HBS := Lib.hid (fun m => ((HB.out m).setCell (p := ⟨R q, z, none⟩) hRl (.bool true)))
              have HBXS := Lib.hid (fun m => (heap_setCell_other (wr.drewN m) ⟨R q, z, none⟩ nb (.bool true) (by dsimp only; omega)).trans (HBX.out m))
              go_wp2_with fail
              go_quiet (fail)
              go_wp2_with fail
              go_region
              go_wp2_with fail
              go_roundw
              case rel => exact ⟨q + 1, by omega, by go_num, by rw [← HN.out]; exact HTS.out _, HT2S.out _, HBS.out _, HBXS.out _⟩
              case measure => simp [intOf]; omega
          · obtain rfl : q = l.shows.length := by omega
            have HT := Lib.hid (ht.congr HPA.out)
            have HT2 := Lib.hid ht2
            have HB := Lib.hid hbel
            clear ht ht2 hbel hbx
            go_wp2_with fail
            go_roundw
            case rel => exact ⟨k + 1, by omega, by go_num, HT.out, HT2.out, HB.out⟩
            case measure => simp [intOf]; omega
    · obtain rfl : k = l.steps.length := by omega
      rw [List.take_length] at ht
      generalize hHF : hfF F l.steps a = H at *
      have HHF := Lib.hid hHF
      have HT := Lib.hid ht
      have HT2 := Lib.hid (ht2.congr (f' := wkP H F l.shows.length 0 0 0) (fun i j _ _ => (wkP_start i j).symm))
      have HB := Lib.hid hbel
      clear ht ht2 hbel hHF
      go_wp2_with fail
      go_loopw [13] (fun i wr => ∃ k : Nat, k ≤ l.shows.length ∧ i = .int .i64 k ∧ TabB wr W0.heap.size g R C l.shows.length H ∧ TabB wr w1.heap.size g2 R2 C2 l.shows.length (wkP H F l.shows.length k 0 0) ∧ Below W0.heap.size W0 wr)
        (fun i _ => l.shows.length - (intOf i).toNat)
      case atStart => exact ⟨0, Nat.zero_le _, rfl, HT.out, HT2.out, HB.out⟩
      case round =>
        clear HT HB HT2 x0 x1
        obtain ⟨i, hi, rfl, ht, ht2, hbel⟩ := hrel
        have HT := Lib.hid ht
        have HB := Lib.hid hbel
        have HT2 := Lib.hid ht2
        clear ht ht2 hbel
        by_cases hin : i < l.shows.length
        · go_wp2_with fail
          go_loopw [14] (fun q wr => ∃ k : Nat, k ≤ l.shows.length ∧ q = .int .i64 k ∧ TabB wr W0.heap.size g R C l.shows.length H ∧ TabB wr w1.heap.size g2 R2 C2 l.shows.length (wkP H F l.shows.length i k 0) ∧ Below W0.heap.size W0 wr)
            (fun q _ => l.shows.length - (intOf q).toNat)
          case atStart => exact ⟨0, Nat.zero_le _, rfl, HT.out, HT2.out, HB.out⟩
          case round =>
            clear HT HB HT2
            obtain ⟨k, hk, rfl, ht, ht2, hbel⟩ := hrel
            have HT := Lib.hid ht
            have HB := Lib.hid hbel
            have HT2 := Lib.hid ht2
            by_cases hkn : k < l.shows.length
            · have b0 : (0 : Int) ≤ (i : Int) := by omega
              have b1 : (i : Int) < (l.shows.length : Int) := by omega
              have b4 : (0 : Int) ≤ (k : Int) := by omega
              have b5 : (k : Int) < (l.shows.length : Int) := by omega
              have bn : (0 : Int) < (l.shows.length : Int) := by omega
              cases hH : H i k
              · have HN := Lib.hid (wkP_skipk (F := F) (n := l.shows.length) hH)
                have o1 := ht.outer i hin
                obtain ⟨n1, _⟩ := ht.inner i k hin hkn
                rw [hH] at n1
                clear ht ht2 hbel hH
                have HWR := Lib.hid (show wr = wr from rfl)
                generalize hwx : wr = wx at *
                subst hwx
                go_wp2_with fail
                go_loopw [15] (fun q W => q = .int .i64 0 ∧ W.cell? ⟨g, i, none⟩ = some (.slice (some ⟨R i, 0, none⟩) l.shows.length (C i)) ∧ W.cell? ⟨R i, k, none⟩ = some (.bool false) ∧ TabB W W0.heap.size g R C l.shows.length H ∧ TabB W w1.heap.size g2 R2 C2 l.shows.length (wkP H F l.shows.length i k 0) ∧ Below W0.heap.size W0 W) (fun _ _ => 0)
                case atStart => exact ⟨rfl, o1, n1, HT.out, HT2.out, HB.out⟩
                case round =>
                  clear HT HB HT2 o1 n1
                  obtain ⟨rfl, o1, n1, ht, ht2, hbel⟩ := hrel
                  have HT := Lib.hid ht
                  have HB := Lib.hid hbel
                  have HT2 := Lib.hid ht2
                  clear ht ht2 hbel
                  go_wp2_with fail
                  go_roundw
                  case rel => exact ⟨k + 1, by omega, by go_num, HT.out, by rw [← HN.out]; exact HT2.out, HB.out⟩
                  case measure => simp [intOf]; omega
              · have HNK := Lib.hid (wkP_nextk (F := F) (n := l.shows.length) hH)
                clear ht ht2 hbel
                go_wp2_with fail
                go_loopw [15] (fun q wr => ∃ j : Nat, j ≤ l.shows.length ∧ q = .int .i64 j ∧ TabB wr W0.heap.size g R C l.shows.length H ∧ TabB wr w1.heap.size g2 R2 C2 l.shows.length (wkP H F l.shows.length i k j) ∧ Below W0.heap.size W0 wr)
                  (fun q _ => l.shows.length - (intOf q).toNat)
                case atStart => exact ⟨0, Nat.zero_le _, rfl, HT.out, HT2.out, HB.out⟩
                case round =>
                  clear HT HB HT2
                  obtain ⟨j, hj, rfl, ht, ht2, hbel⟩ := hrel
                  by_cases hjn : j < l.shows.length
                  · have b2 : (0 : Int) ≤ (j : Int) := by omega
                    have b3 : (j : Int) < (l.shows.length : Int) := by omega
                    have o1 := ht.outer i hin
                    obtain ⟨n1, _⟩ := ht.inner i k hin hkn
                    rw [hH] at n1
                    have hS := HS.out wr hbel
                    have so := hS.outer k hkn
                    obtain ⟨sn, _⟩ := hS.inner k j hkn hjn
                    have o2 := ht2.outer i hin
                    obtain ⟨n3, n4⟩ := ht2.inner i j hin hjn
                    have HT := Lib.hid ht
                    have HB := Lib.hid hbel
                    have HT2 := Lib.hid ht2
                    have hgR : g < W0.heap.size ∨ W0.heap.size ≤ g := by omega
                    have hRl := HLOW.out i hin
                    cases hF : F k j
                    · have HN := Lib.hid (wkP_false (H := H) (n := l.shows.length) (i0 := i) hF)
                      rw [hF] at sn
                      clear ht ht2 hbel hS hF
                      go_wp2_with fail
                      go_roundw
                      case rel => exact ⟨j + 1, by omega, by go_num, HT.out, by rw [HN.out]; exact HT2.out, HB.out⟩
                      case measure => simp [intOf]; omega
                    · have HN := Lib.hid (wkP_true (n := l.shows.length) hH hF)
                      rw [hF] at sn
                      have HTS := Lib.hid (ht.set_other (p := ⟨R2 i, j, none⟩) (by dsimp only; omega) (fun x hx => by have := HUP.out x hx; dsimp only; omega) (.bool true))
                      have HT2S := Lib.hid (ht2.set hin hjn true)
                      have HBS := Lib.hid (hbel.setCell (p := ⟨R2 i, j, none⟩) (by dsimp only; omega) (.bool true))
                      clear ht ht2 hbel hS hF
                      go_wp2_with fail
                      go_roundw
                      case rel => exact ⟨j + 1, by omega, by go_num, HTS.out, by rw [← HN.out]; exact HT2S.out, HBS.out⟩
                      case measure => simp [intOf]; omega
                  · obtain rfl : j = l.shows.length := by omega
                    have HT := Lib.hid ht
                    have HT2 := Lib.hid (ht2.congr HNK.out)
                    have HB := Lib.hid hbel
                    clear ht ht2 hbel
                    go_wp2_with fail
                    go_roundw
                    case rel => exact ⟨k + 1, by omega, by go_num, HT.out, HT2.out, HB.out⟩
                    case measure => simp [intOf]; omega
            · obtain rfl : k = l.shows.length := by omega
              have HT2 := Lib.hid (ht2.congr wkP_nexti)
              clear ht ht2 hbel
              go_wp2_with fail
              go_roundw
              case rel => exact ⟨i + 1, by omega, by go_num, HT.out, HT2.out, HB.out⟩
              case measure => simp [intOf]; omega
        · obtain rfl : i = l.shows.length := by omega
          have HT3 := Lib.hid ((HT2.out.congr wkP_done).mono (show w.heap.size ≤ w1.heap.size by omega))
          have HB3 := Lib.hid (HZ0.out.trans (HB.out.mono hsz0))
          clear HT2
          go_wp2_with fail
          go_ret
          exact ⟨g2, c2, R2, C2, rfl, by rw [HHF.out]; exact HT3.out, HB3.out⟩

end Go.Proofs.YtdgnhfhaaghoaaaGreatDoor
