/- Labelled systems: IsBisimulation of the reference walked. -/
import Derived.Test.YtdgnhfhaaghoaaaGreatDoorProg
import Derived.Test.YtdgnhfhaaghoaaaGreatDoorJ36
import Derived.Test.YtdgnhfhaaghoaaaGreatDoorJ12
import Derived.Test.YtdgnhfhaaghoaaaGreatDoorJ34
import Derived.Test.YtdgnhfhaaghoaaaGreatDoorJ33
import Derived.Lib.QuietBelow
set_option linter.unusedSimpArgs false
set_option linter.unusedVariables false
namespace Go.Proofs.YtdgnhfhaaghoaaaGreatDoor
open Go.RowKit
open Go.Sort (grow)

theorem quiet_cut {P : Program} {ops : Array Oper} {C : World → Prop} {Q : Act → Prop} (n : Nat) {l : List Oper} {a : Act}
    (h : ∀ K : Act → Prop, (∀ a', wpQuiet P ops C Q (l.drop n) a' → K a') → wpQuiet P ops C K (l.take n) a) : wpQuiet P ops C Q l a := by
  have H := h _ (fun _ h => h)
  clear h
  induction n generalizing l a with
  | zero => exact H
  | succ n ih =>
    cases l with
    | nil => exact H
    | cons o l =>
      simp only [List.take_succ_cons, List.drop_succ_cons, wpQuiet] at H ⊢
      split at H
      · rename_i hw
        rw [if_pos hw]
        exact Oper.quiet_mono (fun a h => ih h) H
      · rename_i hw
        rw [if_neg hw]
        exact ih H

def relP (ps : List I2) (a b : Int) : Bool := ps.any fun p => (p.1 == a) && (p.2 == b)
def fP (ps : List I2) (i j : Nat) : Bool := relP ps i j
def inP (l : Lab) (p : I2) : Bool := stB l p.1 && stB l p.2
def okB (l : Lab) (ps : List I2) : Bool := goodLab l && ps.all (inP l)
def bisP (l : Lab) (rel : Int → Int → Bool) (p : I2) : Bool := sameI (l.shows.getD p.1.toNat []) (l.shows.getD p.2.toNat []) && (folB l.steps p.1 p.2 rel && folB l.steps p.2 p.1 (fun b a => rel a b))
def bisB (l : Lab) (ps : List I2) : Bool := ps.all (bisP l (relP ps))

theorem relP_take {ps : List I2} {k : Nat} (h : k < ps.length) (a b : Int) : relP (ps.take (k + 1)) a b = (relP (ps.take k) a b || ((ps[k].1 == a) && (ps[k].2 == b))) := by
  unfold relP
  rw [List.take_succ_eq_append_getElem h, List.any_append]
  simp
theorem fP_take {ps : List I2} {k i j : Nat} (h : k < ps.length) (h1 : ps[k].1 = (i : Int)) (h2 : ps[k].2 = (j : Int)) : setN (fP (ps.take k)) i j true = fP (ps.take (k + 1)) := by
  funext a b
  unfold setN fP
  rw [relP_take h, h1, h2]
  by_cases e : a = i ∧ b = j
  · obtain ⟨rfl, rfl⟩ := e
    rw [if_pos ⟨rfl, rfl⟩]
    simp
  · rw [if_neg e]
    have : (((i : Int) == (a : Int)) && ((j : Int) == (b : Int))) = false := by
      rw [Bool.eq_false_iff]
      intro h
      simp only [Bool.and_eq_true, beq_iff_eq] at h
      exact e ⟨by omega, by omega⟩
    rw [this, Bool.or_false]
theorem relP_in {l : Lab} {ps : List I2} (h : ∀ p ∈ ps, inP l p = true) {a b : Int} (hr : relP ps a b = true) : inR l.shows.length a = true ∧ inR l.shows.length b = true := by
  unfold relP at hr
  rw [List.any_eq_true] at hr
  obtain ⟨p, hp, e⟩ := hr
  simp only [Bool.and_eq_true, beq_iff_eq] at e
  have := h p hp
  unfold inP stB at this
  rw [Bool.and_eq_true] at this
  have h1 := inB_true this.1
  have h2 := inB_true this.2
  rw [e.1] at h1
  rw [e.2] at h2
  unfold inR
  simp only [Bool.and_eq_true, decide_eq_true_eq]
  omega
theorem relF_fP {l : Lab} {ps : List I2} (h : ∀ p ∈ ps, inP l p = true) : relF l.shows.length (fP ps) = relP ps := by
  funext a b
  unfold relF
  cases hr : relP ps a b
  · cases hi : (inR l.shows.length a && inR l.shows.length b)
    · rfl
    · rw [Bool.true_and]
      unfold inR at hi
      simp only [Bool.and_eq_true, decide_eq_true_eq] at hi
      unfold fP
      rw [show ((a.toNat : Nat) : Int) = a by omega, show ((b.toNat : Nat) : Int) = b by omega, hr]
  · obtain ⟨h1, h2⟩ := relP_in h hr
    rw [h1, h2, Bool.true_and, Bool.true_and]
    unfold inR at h1 h2
    simp only [Bool.and_eq_true, decide_eq_true_eq] at h1 h2
    unfold fP
    rw [show ((a.toNat : Nat) : Int) = a by omega, show ((b.toNat : Nat) : Int) = b by omega, hr]
theorem relF_flip {n : Nat} {f : Nat → Nat → Bool} : relF n (flipF f) = fun b a => relF n f a b := by
  funext b a
  unfold relF flipF
  rw [Bool.and_comm (inR n b)]
theorem all_to {f : I2 → Bool} {ps : List I2} {k : Nat} (h : k < ps.length) (hall : (ps.take k).all f = true) : (ps.take (k + 1)).all f = f ps[k] := by
  rw [List.take_succ_eq_append_getElem h, List.all_append, hall]
  simp
theorem all_no {f : I2 → Bool} {ps : List I2} {k : Nat} (h : k < ps.length) (hf : f ps[k] = false) : ps.all f = false := by
  rw [List.all_eq_false]
  exact ⟨_, List.getElem_mem h, by rw [hf]; exact Bool.false_ne_true⟩

set_option maxRecDepth 100000 in
set_option maxHeartbeats 16000000 in
theorem specIsBisimulation_any (v u : Value) (l : Lab) (ps : List I2) (w : World) (hs : SmallLab l) (hv : RLab w v l) (hp : ps.length ≤ 16777216) (hu : RA2 w u ps) :
    Calls Tryz.prog 49 #[v, u] w fun e w' => e = .returned (.tuple #[.bool (okB l ps && bisB l ps), .bool (okB l ps)]) ∧ Below w.heap.size w w' := by
  have HV := Lib.hid (show ∀ W, Below w.heap.size w W → RLab W v l from fun W hb => hv.below hb)
  have HU := Lib.hid (show ∀ W, Below w.heap.size w W → RA2 W u ps from fun W hb => hu.below hb)
  have HSM := Lib.hid hs
  have HSH := Lib.hid hs.2.2
  have hs1 := hs.1
  have hal : ∀ o, Below w.heap.size w (w.alloc o) := fun o => (Below.refl _ _).alloc (Nat.le_refl _) o
  have H2 := Lib.hid (fun n lo hi W => l1In_any n lo hi W)
  obtain ⟨A9, c9, rfl, _, _⟩ := hu
  obtain ⟨sv, tv, rfl, hsv, htv⟩ := hv
  have HSV := Lib.hid (show ∀ W, Below w.heap.size w W → RSS W sv l.shows from fun W hb => hsv.below hb)
  obtain ⟨A, c0, vs, rfl, hm, _, _, _⟩ := hsv
  obtain ⟨D, d, rfl, _, _⟩ := htv
  have H1 := Lib.hid (fun W (hW : Below w.heap.size w W) => l11Good_any _ l W HSM.out (HV.out W hW))
  have HB := Lib.hid (hal (.cells #[.slice A l.shows.length c0, .slice D l.steps.length d] 27))
  clear hal hs
  cases hg : goodLab l
  · have hok : okB l ps = false := by unfold okB; rw [hg]; rfl
    rw [hok, Bool.false_and]
    have H3 := Lib.hid (H1.out _ HB.out)
    rw [hg] at H3
    clear hok
    go_enter Tryz.func49, Tryz.ntmps49
    go_wp2_with fail
    refine H3.out.mono ?_
    rintro e w1 ⟨rfl, hb1⟩
    have HZ := Lib.hid (HB.out.trans (hb1.mono HB.out.size))
    clear hb1
    go_wp2_with fail
    go_ret2
    exact ⟨rfl, HZ.out⟩
  have H3 := Lib.hid (H1.out _ HB.out)
  rw [hg] at H3
  have HG := Lib.hid hg
  have HIN := Lib.hid (lab_in hg)
  have HOK := Lib.hid (show okB l ps = ps.all (inP l) by unfold okB; rw [hg, Bool.true_and])
  have HTB := Lib.hid (fun W => l11Table_any l.shows.length W HIN.out.some_ HIN.out.most)
  clear hg
  go_enter Tryz.func49, Tryz.ntmps49
  go_wp2_with fail
  refine H3.out.mono ?_
  rintro e w1 ⟨rfl, hb1⟩
  obtain ⟨bx, _⟩ := one_box hb1
  have x0 : w1.cell? ⟨w.heap.size, 0, none⟩ = some (.slice A l.shows.length c0) := cell_of_row _ _ _ _ _ _ bx
  have HZ := Lib.hid (HB.out.trans (hb1.mono HB.out.size))
  have HBX := Lib.hid bx
  have HW1 := Lib.hid (show w.heap.size < w1.heap.size from (Array.getElem?_eq_some_iff.1 bx).1)
  clear hb1 bx
  go_wp2_with fail
  refine (HTB.out _).mono ?_
  rintro e w2 ⟨g, c, R, C, rfl, ht, hb2⟩
  have HT := Lib.hid ht
  have HZ2 := Lib.hid (HZ.out.trans (hb2.mono HZ.out.size))
  have HBX2 := Lib.hid ((hb2.block _ HW1.out).trans HBX.out)
  clear hb2 ht x0
  go_wp2_with fail
  go_loopw [8] (fun q wr => ∃ k : Nat, k ≤ ps.length ∧ q = .int .i64 k ∧ TabB wr w1.heap.size g R C l.shows.length (fP (ps.take k)) ∧ (ps.take k).all (inP l) = true ∧ Below w.heap.size w wr ∧ wr.heap[w.heap.size]? = some (.cells #[.slice A l.shows.length c0, .slice D l.steps.length d] 27))
    (fun q _ => ps.length - (intOf q).toNat)
  case atStart => exact ⟨0, Nat.zero_le _, rfl, HT.out.congr (fun a b _ _ => rfl), rfl, HZ2.out, HBX2.out⟩
  case round =>
    clear HT HZ2 HBX2
    obtain ⟨k, hk, rfl, ht, hall, hbel, hbx⟩ := hrel
    have HT := Lib.hid ht
    have HALL := Lib.hid hall
    have HZ2 := Lib.hid hbel
    have HBX2 := Lib.hid hbx
    by_cases hlt : k < ps.length
    · obtain ⟨b, o, c', e, k0, k1⟩ := (HU.out wr hbel).at_ (List.getElem?_eq_getElem hlt)
      cases e
      have HAT := Lib.hid (all_to hlt HALL.out)
      have HNO := Lib.hid (fun h => all_no (f := inP l) hlt h)
      have HFP := Lib.hid (fun i j => fP_take (i := i) (j := j) hlt)
      generalize ps[k] = p at *
      have b0 : (0 : Int) ≤ (k : Int) := by omega
      have b1 : (k : Int) < (ps.length : Int) := by omega
      clear hall hbx
      cases h1 : stB l p.1
      · have HR := Lib.hid (show okB l ps = false by rw [HOK.out]; exact HNO.out (by unfold inP; rw [h1]; rfl))
        have h1' : inB p.1 0 ((l.shows.length : Int) - 1) = false := h1
        have HI := Lib.hid (H2.out p.1 0 ((l.shows.length : Int) - 1) wr)
        rw [h1'] at HI
        clear h1 h1' ht hbel
        go_wp2_with fail
        refine HI.out.mono ?_
        rintro e w3 ⟨rfl, rfl⟩
        go_wp2_with fail
        go_ret2
        exact ⟨by rw [HR.out]; rfl, HZ2.out⟩
      · obtain ⟨i, hpi, hi⟩ := stB_true h1
        have h1' : inB p.1 0 ((l.shows.length : Int) - 1) = true := h1
        have HI := Lib.hid (H2.out p.1 0 ((l.shows.length : Int) - 1) wr)
        rw [h1'] at HI
        cases h2 : stB l p.2
        · have HR := Lib.hid (show okB l ps = false by rw [HOK.out]; exact HNO.out (by unfold inP; rw [h2, Bool.and_false]))
          have h2' : inB p.2 0 ((l.shows.length : Int) - 1) = false := h2
          have HI2 := Lib.hid (H2.out p.2 0 ((l.shows.length : Int) - 1) wr)
          rw [h2'] at HI2
          clear h1 h1' h2 h2' ht hbel hpi
          go_wp2_with fail
          refine HI.out.mono ?_
          rintro e w3 ⟨rfl, rfl⟩
          go_wp2_with fail
          refine HI2.out.mono ?_
          rintro e w3 ⟨rfl, rfl⟩
          go_wp2_with fail
          go_ret2
          exact ⟨by rw [HR.out]; rfl, HZ2.out⟩
        · obtain ⟨j, hpj, hj⟩ := stB_true h2
          have h2' : inB p.2 0 ((l.shows.length : Int) - 1) = true := h2
          have HI2 := Lib.hid (H2.out p.2 0 ((l.shows.length : Int) - 1) wr)
          rw [h2'] at HI2
          have HAT2 := Lib.hid (show (ps.take (k + 1)).all (inP l) = true by rw [HAT.out]; unfold inP; rw [h1, h2]; rfl)
          have hset := ht.set hi hj true
          rw [HFP.out i j hpi hpj] at hset
          have HSET := Lib.hid (hset.below (Below.refl _ _).drew (Nat.le_refl _))
          have o1 := ht.outer i hi
          obtain ⟨n1, n2⟩ := ht.inner i j hi hj
          have hlow := ht.low i hi
          have hgb : b < w.heap.size := by
            obtain ⟨_, _, _, e9, q0, _⟩ := (HU.out w (Below.refl _ _)).at_ (List.getElem?_eq_getElem hlt)
            cases e9
            exact lt_of_cell q0
          have hww := HW1.out
          rw [hpi] at k0 HI
          rw [hpj] at k1 HI2
          have hS : ∀ x, (wr.setCell ⟨R i, j, none⟩ x).drew.cell? ⟨b, o + k * 2, none⟩ = some (.int .i64 i) ∧ (wr.setCell ⟨R i, j, none⟩ x).drew.cell? ⟨b, o + k * 2 + 1, none⟩ = some (.int .i64 j) ∧ (wr.setCell ⟨R i, j, none⟩ x).drew.cell? ⟨g, i, none⟩ = some (.slice (some ⟨R i, 0, none⟩) l.shows.length (C i)) := fun x => by
            refine ⟨?_, ?_, ?_⟩
            · exact (World.cell?_setCell_other wr _ _ _ (by intro e; simp only [Addr.mk.injEq, and_true] at e; omega)).trans k0
            · exact (World.cell?_setCell_other wr _ _ _ (by intro e; simp only [Addr.mk.injEq, and_true] at e; omega)).trans k1
            · exact (World.cell?_setCell_other wr _ _ _ (by intro e; simp only [Addr.mk.injEq, and_true] at e; omega)).trans o1
          have HS := Lib.hid hS
          have HZ3 := Lib.hid ((hbel.setCell (p := ⟨R i, j, none⟩) (by show w.heap.size ≤ R i; omega) (.bool true)).drew)
          have HBX3 := Lib.hid (show (wr.setCell ⟨R i, j, none⟩ (.bool true)).drew.heap[w.heap.size]? = some (.cells #[.slice A l.shows.length c0, .slice D l.steps.length d] 27) from (heap_setCell_other wr ⟨R i, j, none⟩ w.heap.size (.bool true) (by dsimp only; omega)).trans HBX2.out)
          have d0 : (0 : Int) ≤ (i : Int) := by omega
          have d1 : (i : Int) < (l.shows.length : Int) := by omega
          have d2 : (0 : Int) ≤ (j : Int) := by omega
          have d3 : (j : Int) < (l.shows.length : Int) := by omega
          clear h1 h1' h2 h2' ht hbel hset hS hpi hpj
          go_wp2_with fail
          refine HI.out.mono ?_
          rintro e w3 ⟨rfl, rfl⟩
          go_wp2_with fail
          refine HI2.out.mono ?_
          rintro e w3 ⟨rfl, rfl⟩
          go_wp2_with fail
          go_region_held3 (fun w' => w'.cell? ⟨b, o + k * 2, none⟩ = some (.int .i64 i) ∧ w'.cell? ⟨b, o + k * 2 + 1, none⟩ = some (.int .i64 j) ∧ w'.cell? ⟨g, i, none⟩ = some (.slice (some ⟨R i, 0, none⟩) l.shows.length (C i)))
            (first | exact HS.out _ | go_keep)
            (first | fail)
          go_wp2_with fail
          go_roundw
          case rel => exact ⟨k + 1, by omega, by go_num, HSET.out, HAT2.out, HZ3.out, HBX3.out⟩
          case measure => simp [intOf]; omega
    · obtain rfl : k = ps.length := by omega
      have hall' := hall
      rw [List.take_length] at hall'
      have HAL := Lib.hid (show ∀ p ∈ ps, inP l p = true from List.all_eq_true.1 hall')
      have HOK2 := Lib.hid (show okB l ps = true by rw [HOK.out]; exact hall')
      have ht' := ht
      rw [List.take_length] at ht'
      have HT1 := Lib.hid ht'
      have HFL := Lib.hid (l11Flip_any w1.heap.size g c l.shows.length R C (fP ps) wr HIN.out.some_ HIN.out.most ht')
      clear ht ht' hall hall' hbel hbx HT HALL
      go_wp2_with fail
      refine HFL.out.mono ?_
      rintro e w3 ⟨g2, c2, R2, C2, rfl, ht2, hb3⟩
      have HT2 := Lib.hid ht2
      have HT1 := Lib.hid (HT1.out.below hb3 (Nat.le_refl _))
      have HZ3 := Lib.hid (HZ2.out.trans (hb3.mono HZ2.out.size))
      have HBX3 := Lib.hid ((hb3.block _ (Array.getElem?_eq_some_iff.1 HBX2.out).1).trans HBX2.out)
      clear ht2 hb3
      go_wp2_with fail
      go_loopw [10] (fun q wr => ∃ k : Nat, k ≤ ps.length ∧ q = .int .i64 k ∧ (ps.take k).all (bisP l (relP ps)) = true ∧ Below w3.heap.size w3 wr)
        (fun q _ => ps.length - (intOf q).toNat)
      case atStart => exact ⟨0, Nat.zero_le _, rfl, rfl, Below.refl _ _⟩
      case round =>
        obtain ⟨k, hk, rfl, hall, hbel⟩ := hrel
        have HALL := Lib.hid hall
        have HZ4 := Lib.hid hbel
        have HZ5 := Lib.hid (HZ3.out.trans (hbel.mono HZ3.out.size))
        have hbx := (hbel.block _ (Array.getElem?_eq_some_iff.1 HBX3.out).1).trans HBX3.out
        by_cases hlt : k < ps.length
        · obtain ⟨b, o, c', e, k0, k1⟩ := (HU.out wr HZ5.out).at_ (List.getElem?_eq_getElem hlt)
          cases e
          have HAT := Lib.hid (all_to hlt HALL.out)
          have HNO := Lib.hid (fun h => all_no (f := bisP l (relP ps)) hlt h)
          have hin := HAL.out _ (List.getElem_mem hlt)
          generalize ps[k] = p at *
          have b0 : (0 : Int) ≤ (k : Int) := by omega
          have b1 : (k : Int) < (ps.length : Int) := by omega
          unfold inP at hin
          rw [Bool.and_eq_true] at hin
          obtain ⟨i, hpi, hi⟩ := stB_true hin.1
          obtain ⟨j, hpj, hj⟩ := stB_true hin.2
          rw [hpi] at k0
          rw [hpj] at k1
          obtain ⟨A', c', us, e, _, hul, hcu, hru⟩ := HSV.out wr HZ5.out
          cases e
          obtain ⟨sb, so, rfl, hcc⟩ := hcu.at_ (k := i) (by omega)
          have ci := hcc i _ (List.getElem?_eq_getElem (by omega))
          have ck := hcc j _ (List.getElem?_eq_getElem (by omega))
          obtain ⟨Ai, ai, ei, _, hAi⟩ := hru i _ _ (List.getElem?_eq_getElem (by omega)) (List.getElem?_eq_getElem hi)
          obtain ⟨Ak, ak, ek, _, hAk⟩ := hru j _ _ (List.getElem?_eq_getElem (by omega)) (List.getElem?_eq_getElem hj)
          rw [ei] at ci
          rw [ek] at ck
          have hsi := HSH.out _ (List.getElem_mem hi)
          have hsk := HSH.out _ (List.getElem_mem hj)
          have hbis : bisP l (relP ps) p = (sameI l.shows[i] l.shows[j] && (folB l.steps i j (relF l.shows.length (fP ps)) && folB l.steps j i (relF l.shows.length (flipF (fP ps))))) := by
            unfold bisP
            rw [relF_flip, relF_fP HAL.out, hpi, hpj]
            simp [List.getD, hi, hj]
          rw [hbis] at HAT HNO
          have HRW := Lib.hid (fun W (hW : Below wr.heap.size wr W) d os => hW.trans ((below_regrown W d os).mono hW.size))
          have HCS := Lib.hid (fun W (hW : Below wr.heap.size wr W) d os => Calls.regrown_of (l1Same_any Ai Ak ai ak l.shows[i] l.shows[j] (grow (redrawn W d) os) hsi hsk (hAi.below (HRW.out W hW d os)) (hAk.below (HRW.out W hW d os))))
          have HCA := Lib.hid (fun W (hW : Below wr.heap.size wr W) d os => Calls.regrown_of (l11Answered_any _ l w1.heap.size g c R C l.shows.length (fP ps) i j (grow (redrawn W d) os) HSM.out HG.out rfl (HV.out _ (HZ5.out.trans ((HRW.out W hW d os).mono HZ5.out.size))) ((HT1.out.below hbel (Nat.le_refl _)).below (HRW.out W hW d os) (Nat.le_refl _))))
          have HCB := Lib.hid (fun W (hW : Below wr.heap.size wr W) d os => Calls.regrown_of (l11Answered_any _ l _ g2 c2 R2 C2 l.shows.length (flipF (fP ps)) j i (grow (redrawn W d) os) HSM.out HG.out rfl (HV.out _ (HZ5.out.trans ((HRW.out W hW d os).mono HZ5.out.size))) ((HT2.out.below hbel (Nat.le_refl _)).below (HRW.out W hW d os) (Nat.le_refl _))))
          have x0 := cell_of_row wr w.heap.size 0 _ _ _ hbx
          have x1 := cell_of_row wr w.heap.size 1 _ _ _ hbx
          have HXS := Lib.hid (fun W (hW : Below wr.heap.size wr W) => (⟨cell_regrown (cell_below hW x0 (lt_of_cell x0)), cell_regrown (cell_below hW x1 (lt_of_cell x1)), cell_regrown (cell_below hW ci (lt_of_cell ci)), cell_regrown (cell_below hW ck (lt_of_cell ck))⟩ : _ ∧ _ ∧ _ ∧ _))
          have d0 : (0 : Int) ≤ (i : Int) := by omega
          have d1 : (i : Int) < (l.shows.length : Int) := by omega
          have d2 : (0 : Int) ≤ (j : Int) := by omega
          have d3 : (j : Int) < (l.shows.length : Int) := by omega
          clear hall hin hpi hpj hcc hru hcu ei ek hAi hAk hsi hsk hbis hbx hul hbel x0 x1 ci ck
          generalize l.shows[i] = xi at *
          generalize l.shows[j] = xk at *
          go_wp2_with fail
          go_quiet (fail)
          go_wp2_with fail
          have hq : Below wr.heap.size wr (wr.drewN nq) := below_drewN' (Below.refl _ _) nq
          generalize wr.drewN nq = wq at hq ⊢
          obtain ⟨x0, x1, ci, ck⟩ := HXS.out wq hq
          have CS := Lib.hid (HCS.out wq hq)
          have CA := Lib.hid (HCA.out wq hq)
          have CB := Lib.hid (HCB.out wq hq)
          have HZQ := Lib.hid (HZ4.out.trans (hq.mono HZ4.out.size))
          have HZQ5 := Lib.hid (HZ5.out.trans (hq.mono HZ5.out.size))
          clear HCS HCA HCB HXS hq k0 k1
          cases h1 : sameI xi xk
          · rw [h1] at CS
            have HF := Lib.hid (show bisB l ps = false from HNO.out (by rw [h1]; rfl))
            clear h1
            refine wp_region_quiet_below (by kernel_rfl) (by kernel_rfl) ?_
            refine quiet_cut 27 (fun K27 k27 => ?_)
            simp only [List.take_succ_cons, List.take_zero, List.drop_succ_cons, List.drop_zero] at k27 ⊢
            refine quiet_cut 26 (fun K26 k26 => ?_)
            simp only [List.take_succ_cons, List.take_zero, List.drop_succ_cons, List.drop_zero] at k26 ⊢
            refine quiet_cut 25 (fun K25 k25 => ?_)
            simp only [List.take_succ_cons, List.take_zero, List.drop_succ_cons, List.drop_zero] at k25 ⊢
            refine quiet_cut 24 (fun K24 k24 => ?_)
            simp only [List.take_succ_cons, List.take_zero, List.drop_succ_cons, List.drop_zero] at k24 ⊢
            refine quiet_cut 23 (fun K23 k23 => ?_)
            simp only [List.take_succ_cons, List.take_zero, List.drop_succ_cons, List.drop_zero] at k23 ⊢
            refine quiet_cut 22 (fun K22 k22 => ?_)
            simp only [List.take_succ_cons, List.take_zero, List.drop_succ_cons, List.drop_zero] at k22 ⊢
            refine quiet_cut 21 (fun K21 k21 => ?_)
            simp only [List.take_succ_cons, List.take_zero, List.drop_succ_cons, List.drop_zero] at k21 ⊢
            refine quiet_cut 20 (fun K20 k20 => ?_)
            simp only [List.take_succ_cons, List.take_zero, List.drop_succ_cons, List.drop_zero] at k20 ⊢
            refine quiet_cut 19 (fun K19 k19 => ?_)
            simp only [List.take_succ_cons, List.take_zero, List.drop_succ_cons, List.drop_zero] at k19 ⊢
            refine quiet_cut 18 (fun K18 k18 => ?_)
            simp only [List.take_succ_cons, List.take_zero, List.drop_succ_cons, List.drop_zero] at k18 ⊢
            refine quiet_cut 17 (fun K17 k17 => ?_)
            simp only [List.take_succ_cons, List.take_zero, List.drop_succ_cons, List.drop_zero] at k17 ⊢
            refine quiet_cut 16 (fun K16 k16 => ?_)
            simp only [List.take_succ_cons, List.take_zero, List.drop_succ_cons, List.drop_zero] at k16 ⊢
            refine quiet_cut 15 (fun K15 k15 => ?_)
            simp only [List.take_succ_cons, List.take_zero, List.drop_succ_cons, List.drop_zero] at k15 ⊢
            refine quiet_cut 14 (fun K14 k14 => ?_)
            simp only [List.take_succ_cons, List.take_zero, List.drop_succ_cons, List.drop_zero] at k14 ⊢
            refine quiet_cut 13 (fun K13 k13 => ?_)
            simp only [List.take_succ_cons, List.take_zero, List.drop_succ_cons, List.drop_zero] at k13 ⊢
            refine quiet_cut 12 (fun K12 k12 => ?_)
            simp only [List.take_succ_cons, List.take_zero, List.drop_succ_cons, List.drop_zero] at k12 ⊢
            quiet_step (exact CS.out _ _)
            quiet_step (exact CS.out _ _)
            quiet_step (exact CS.out _ _)
            quiet_step (exact CS.out _ _)
            quiet_step (exact CS.out _ _)
            quiet_step (exact CS.out _ _)
            quiet_step (exact CS.out _ _)
            quiet_step (exact CS.out _ _)
            quiet_step (exact CS.out _ _)
            quiet_step (exact CS.out _ _)
            quiet_step (exact CS.out _ _)
            quiet_step (exact CS.out _ _)
            refine wpQuiet_nil ?_
            refine k12 _ ?_
            quiet_step (exact CS.out _ _)
            refine wpQuiet_nil ?_
            refine k13 _ ?_
            quiet_step (exact CA.out _ _)
            refine wpQuiet_nil ?_
            refine k14 _ ?_
            quiet_step (exact CA.out _ _)
            refine wpQuiet_nil ?_
            refine k15 _ ?_
            quiet_step (exact CA.out _ _)
            refine wpQuiet_nil ?_
            refine k16 _ ?_
            quiet_step (exact CA.out _ _)
            refine wpQuiet_nil ?_
            refine k17 _ ?_
            quiet_step (exact CA.out _ _)
            refine wpQuiet_nil ?_
            refine k18 _ ?_
            quiet_step (exact CA.out _ _)
            refine wpQuiet_nil ?_
            refine k19 _ ?_
            quiet_step (exact CA.out _ _)
            refine wpQuiet_nil ?_
            refine k20 _ ?_
            quiet_step (exact CB.out _ _)
            refine wpQuiet_nil ?_
            refine k21 _ ?_
            quiet_step (exact CB.out _ _)
            refine wpQuiet_nil ?_
            refine k22 _ ?_
            quiet_step (exact CB.out _ _)
            refine wpQuiet_nil ?_
            refine k23 _ ?_
            quiet_step (exact CB.out _ _)
            refine wpQuiet_nil ?_
            refine k24 _ ?_
            quiet_step (exact CB.out _ _)
            refine wpQuiet_nil ?_
            refine k25 _ ?_
            quiet_step (exact CB.out _ _)
            refine wpQuiet_nil ?_
            refine k26 _ ?_
            quiet_step (exact CB.out _ _)
            refine wpQuiet_nil ?_
            refine k27 _ ?_
            quiet_step (exact CB.out _ _)
            refine wpQuiet_nil ?_
            intro wG hw'
            have hbG : Below wq.heap.size wq wG := by
              obtain ⟨pG, rfl⟩ := hw'
              exact below_regrown _ _ _
            clear hw'
            have HZG := Lib.hid (HZQ5.out.trans (hbG.mono HZQ5.out.size))
            clear hbG x0 x1 ci ck
            go_wp2_with fail
            go_ret2
            exact ⟨by rw [HOK2.out, HF.out]; rfl, HZG.out⟩
          · rw [h1, Bool.true_and] at HAT HNO
            rw [h1] at CS
            clear h1
            cases h2 : folB l.steps i j (relF l.shows.length (fP ps))
            · rw [h2] at CA
              have HF := Lib.hid (show bisB l ps = false from HNO.out (by rw [h2]; rfl))
              clear h2
              refine wp_region_quiet_below (by kernel_rfl) (by kernel_rfl) ?_
              refine quiet_cut 27 (fun K27 k27 => ?_)
              simp only [List.take_succ_cons, List.take_zero, List.drop_succ_cons, List.drop_zero] at k27 ⊢
              refine quiet_cut 26 (fun K26 k26 => ?_)
              simp only [List.take_succ_cons, List.take_zero, List.drop_succ_cons, List.drop_zero] at k26 ⊢
              refine quiet_cut 25 (fun K25 k25 => ?_)
              simp only [List.take_succ_cons, List.take_zero, List.drop_succ_cons, List.drop_zero] at k25 ⊢
              refine quiet_cut 24 (fun K24 k24 => ?_)
              simp only [List.take_succ_cons, List.take_zero, List.drop_succ_cons, List.drop_zero] at k24 ⊢
              refine quiet_cut 23 (fun K23 k23 => ?_)
              simp only [List.take_succ_cons, List.take_zero, List.drop_succ_cons, List.drop_zero] at k23 ⊢
              refine quiet_cut 22 (fun K22 k22 => ?_)
              simp only [List.take_succ_cons, List.take_zero, List.drop_succ_cons, List.drop_zero] at k22 ⊢
              refine quiet_cut 21 (fun K21 k21 => ?_)
              simp only [List.take_succ_cons, List.take_zero, List.drop_succ_cons, List.drop_zero] at k21 ⊢
              refine quiet_cut 20 (fun K20 k20 => ?_)
              simp only [List.take_succ_cons, List.take_zero, List.drop_succ_cons, List.drop_zero] at k20 ⊢
              refine quiet_cut 19 (fun K19 k19 => ?_)
              simp only [List.take_succ_cons, List.take_zero, List.drop_succ_cons, List.drop_zero] at k19 ⊢
              refine quiet_cut 18 (fun K18 k18 => ?_)
              simp only [List.take_succ_cons, List.take_zero, List.drop_succ_cons, List.drop_zero] at k18 ⊢
              refine quiet_cut 17 (fun K17 k17 => ?_)
              simp only [List.take_succ_cons, List.take_zero, List.drop_succ_cons, List.drop_zero] at k17 ⊢
              refine quiet_cut 16 (fun K16 k16 => ?_)
              simp only [List.take_succ_cons, List.take_zero, List.drop_succ_cons, List.drop_zero] at k16 ⊢
              refine quiet_cut 15 (fun K15 k15 => ?_)
              simp only [List.take_succ_cons, List.take_zero, List.drop_succ_cons, List.drop_zero] at k15 ⊢
              refine quiet_cut 14 (fun K14 k14 => ?_)
              simp only [List.take_succ_cons, List.take_zero, List.drop_succ_cons, List.drop_zero] at k14 ⊢
              refine quiet_cut 13 (fun K13 k13 => ?_)
              simp only [List.take_succ_cons, List.take_zero, List.drop_succ_cons, List.drop_zero] at k13 ⊢
              refine quiet_cut 12 (fun K12 k12 => ?_)
              simp only [List.take_succ_cons, List.take_zero, List.drop_succ_cons, List.drop_zero] at k12 ⊢
              quiet_step (exact CS.out _ _)
              quiet_step (exact CS.out _ _)
              quiet_step (exact CS.out _ _)
              quiet_step (exact CS.out _ _)
              quiet_step (exact CS.out _ _)
              quiet_step (exact CS.out _ _)
              quiet_step (exact CS.out _ _)
              quiet_step (exact CS.out _ _)
              quiet_step (exact CS.out _ _)
              quiet_step (exact CS.out _ _)
              quiet_step (exact CS.out _ _)
              quiet_step (exact CS.out _ _)
              refine wpQuiet_nil ?_
              refine k12 _ ?_
              quiet_step (exact CS.out _ _)
              refine wpQuiet_nil ?_
              refine k13 _ ?_
              quiet_step (exact CA.out _ _)
              refine wpQuiet_nil ?_
              refine k14 _ ?_
              quiet_step (exact CA.out _ _)
              refine wpQuiet_nil ?_
              refine k15 _ ?_
              quiet_step (exact CA.out _ _)
              refine wpQuiet_nil ?_
              refine k16 _ ?_
              quiet_step (exact CA.out _ _)
              refine wpQuiet_nil ?_
              refine k17 _ ?_
              quiet_step (exact CA.out _ _)
              refine wpQuiet_nil ?_
              refine k18 _ ?_
              quiet_step (exact CA.out _ _)
              refine wpQuiet_nil ?_
              refine k19 _ ?_
              quiet_step (exact CA.out _ _)
              refine wpQuiet_nil ?_
              refine k20 _ ?_
              quiet_step (exact CB.out _ _)
              refine wpQuiet_nil ?_
              refine k21 _ ?_
              quiet_step (exact CB.out _ _)
              refine wpQuiet_nil ?_
              refine k22 _ ?_
              quiet_step (exact CB.out _ _)
              refine wpQuiet_nil ?_
              refine k23 _ ?_
              quiet_step (exact CB.out _ _)
              refine wpQuiet_nil ?_
              refine k24 _ ?_
              quiet_step (exact CB.out _ _)
              refine wpQuiet_nil ?_
              refine k25 _ ?_
              quiet_step (exact CB.out _ _)
              refine wpQuiet_nil ?_
              refine k26 _ ?_
              quiet_step (exact CB.out _ _)
              refine wpQuiet_nil ?_
              refine k27 _ ?_
              quiet_step (exact CB.out _ _)
              refine wpQuiet_nil ?_
              intro wG hw'
              have hbG : Below wq.heap.size wq wG := by
                obtain ⟨pG, rfl⟩ := hw'
                exact below_regrown _ _ _
              clear hw'
              have HZG := Lib.hid (HZQ5.out.trans (hbG.mono HZQ5.out.size))
              clear hbG x0 x1 ci ck
              go_wp2_with fail
              go_ret2
              exact ⟨by rw [HOK2.out, HF.out]; rfl, HZG.out⟩
            · rw [h2, Bool.true_and] at HAT HNO
              rw [h2] at CA
              clear h2
              cases h3 : folB l.steps j i (relF l.shows.length (flipF (fP ps)))
              · rw [h3] at CB
                have HF := Lib.hid (show bisB l ps = false from HNO.out h3)
                clear h3
                refine wp_region_quiet_below (by kernel_rfl) (by kernel_rfl) ?_
                refine quiet_cut 27 (fun K27 k27 => ?_)
                simp only [List.take_succ_cons, List.take_zero, List.drop_succ_cons, List.drop_zero] at k27 ⊢
                refine quiet_cut 26 (fun K26 k26 => ?_)
                simp only [List.take_succ_cons, List.take_zero, List.drop_succ_cons, List.drop_zero] at k26 ⊢
                refine quiet_cut 25 (fun K25 k25 => ?_)
                simp only [List.take_succ_cons, List.take_zero, List.drop_succ_cons, List.drop_zero] at k25 ⊢
                refine quiet_cut 24 (fun K24 k24 => ?_)
                simp only [List.take_succ_cons, List.take_zero, List.drop_succ_cons, List.drop_zero] at k24 ⊢
                refine quiet_cut 23 (fun K23 k23 => ?_)
                simp only [List.take_succ_cons, List.take_zero, List.drop_succ_cons, List.drop_zero] at k23 ⊢
                refine quiet_cut 22 (fun K22 k22 => ?_)
                simp only [List.take_succ_cons, List.take_zero, List.drop_succ_cons, List.drop_zero] at k22 ⊢
                refine quiet_cut 21 (fun K21 k21 => ?_)
                simp only [List.take_succ_cons, List.take_zero, List.drop_succ_cons, List.drop_zero] at k21 ⊢
                refine quiet_cut 20 (fun K20 k20 => ?_)
                simp only [List.take_succ_cons, List.take_zero, List.drop_succ_cons, List.drop_zero] at k20 ⊢
                refine quiet_cut 19 (fun K19 k19 => ?_)
                simp only [List.take_succ_cons, List.take_zero, List.drop_succ_cons, List.drop_zero] at k19 ⊢
                refine quiet_cut 18 (fun K18 k18 => ?_)
                simp only [List.take_succ_cons, List.take_zero, List.drop_succ_cons, List.drop_zero] at k18 ⊢
                refine quiet_cut 17 (fun K17 k17 => ?_)
                simp only [List.take_succ_cons, List.take_zero, List.drop_succ_cons, List.drop_zero] at k17 ⊢
                refine quiet_cut 16 (fun K16 k16 => ?_)
                simp only [List.take_succ_cons, List.take_zero, List.drop_succ_cons, List.drop_zero] at k16 ⊢
                refine quiet_cut 15 (fun K15 k15 => ?_)
                simp only [List.take_succ_cons, List.take_zero, List.drop_succ_cons, List.drop_zero] at k15 ⊢
                refine quiet_cut 14 (fun K14 k14 => ?_)
                simp only [List.take_succ_cons, List.take_zero, List.drop_succ_cons, List.drop_zero] at k14 ⊢
                refine quiet_cut 13 (fun K13 k13 => ?_)
                simp only [List.take_succ_cons, List.take_zero, List.drop_succ_cons, List.drop_zero] at k13 ⊢
                refine quiet_cut 12 (fun K12 k12 => ?_)
                simp only [List.take_succ_cons, List.take_zero, List.drop_succ_cons, List.drop_zero] at k12 ⊢
                quiet_step (exact CS.out _ _)
                quiet_step (exact CS.out _ _)
                quiet_step (exact CS.out _ _)
                quiet_step (exact CS.out _ _)
                quiet_step (exact CS.out _ _)
                quiet_step (exact CS.out _ _)
                quiet_step (exact CS.out _ _)
                quiet_step (exact CS.out _ _)
                quiet_step (exact CS.out _ _)
                quiet_step (exact CS.out _ _)
                quiet_step (exact CS.out _ _)
                quiet_step (exact CS.out _ _)
                refine wpQuiet_nil ?_
                refine k12 _ ?_
                quiet_step (exact CS.out _ _)
                refine wpQuiet_nil ?_
                refine k13 _ ?_
                quiet_step (exact CA.out _ _)
                refine wpQuiet_nil ?_
                refine k14 _ ?_
                quiet_step (exact CA.out _ _)
                refine wpQuiet_nil ?_
                refine k15 _ ?_
                quiet_step (exact CA.out _ _)
                refine wpQuiet_nil ?_
                refine k16 _ ?_
                quiet_step (exact CA.out _ _)
                refine wpQuiet_nil ?_
                refine k17 _ ?_
                quiet_step (exact CA.out _ _)
                refine wpQuiet_nil ?_
                refine k18 _ ?_
                quiet_step (exact CA.out _ _)
                refine wpQuiet_nil ?_
                refine k19 _ ?_
                quiet_step (exact CA.out _ _)
                refine wpQuiet_nil ?_
                refine k20 _ ?_
                quiet_step (exact CB.out _ _)
                refine wpQuiet_nil ?_
                refine k21 _ ?_
                quiet_step (exact CB.out _ _)
                refine wpQuiet_nil ?_
                refine k22 _ ?_
                quiet_step (exact CB.out _ _)
                refine wpQuiet_nil ?_
                refine k23 _ ?_
                quiet_step (exact CB.out _ _)
                refine wpQuiet_nil ?_
                refine k24 _ ?_
                quiet_step (exact CB.out _ _)
                refine wpQuiet_nil ?_
                refine k25 _ ?_
                quiet_step (exact CB.out _ _)
                refine wpQuiet_nil ?_
                refine k26 _ ?_
                quiet_step (exact CB.out _ _)
                refine wpQuiet_nil ?_
                refine k27 _ ?_
                quiet_step (exact CB.out _ _)
                refine wpQuiet_nil ?_
                intro wG hw'
                have hbG : Below wq.heap.size wq wG := by
                  obtain ⟨pG, rfl⟩ := hw'
                  exact below_regrown _ _ _
                clear hw'
                have HZG := Lib.hid (HZQ5.out.trans (hbG.mono HZQ5.out.size))
                clear hbG x0 x1 ci ck
                go_wp2_with fail
                go_ret2
                exact ⟨by rw [HOK2.out, HF.out]; rfl, HZG.out⟩
              · rw [h3] at CB
                have HA2 := Lib.hid (show (ps.take (k + 1)).all (bisP l (relP ps)) = true by rw [HAT.out, h3])
                clear h3
                refine wp_region_quiet_below (by kernel_rfl) (by kernel_rfl) ?_
                refine quiet_cut 27 (fun K27 k27 => ?_)
                simp only [List.take_succ_cons, List.take_zero, List.drop_succ_cons, List.drop_zero] at k27 ⊢
                refine quiet_cut 26 (fun K26 k26 => ?_)
                simp only [List.take_succ_cons, List.take_zero, List.drop_succ_cons, List.drop_zero] at k26 ⊢
                refine quiet_cut 25 (fun K25 k25 => ?_)
                simp only [List.take_succ_cons, List.take_zero, List.drop_succ_cons, List.drop_zero] at k25 ⊢
                refine quiet_cut 24 (fun K24 k24 => ?_)
                simp only [List.take_succ_cons, List.take_zero, List.drop_succ_cons, List.drop_zero] at k24 ⊢
                refine quiet_cut 23 (fun K23 k23 => ?_)
                simp only [List.take_succ_cons, List.take_zero, List.drop_succ_cons, List.drop_zero] at k23 ⊢
                refine quiet_cut 22 (fun K22 k22 => ?_)
                simp only [List.take_succ_cons, List.take_zero, List.drop_succ_cons, List.drop_zero] at k22 ⊢
                refine quiet_cut 21 (fun K21 k21 => ?_)
                simp only [List.take_succ_cons, List.take_zero, List.drop_succ_cons, List.drop_zero] at k21 ⊢
                refine quiet_cut 20 (fun K20 k20 => ?_)
                simp only [List.take_succ_cons, List.take_zero, List.drop_succ_cons, List.drop_zero] at k20 ⊢
                refine quiet_cut 19 (fun K19 k19 => ?_)
                simp only [List.take_succ_cons, List.take_zero, List.drop_succ_cons, List.drop_zero] at k19 ⊢
                refine quiet_cut 18 (fun K18 k18 => ?_)
                simp only [List.take_succ_cons, List.take_zero, List.drop_succ_cons, List.drop_zero] at k18 ⊢
                refine quiet_cut 17 (fun K17 k17 => ?_)
                simp only [List.take_succ_cons, List.take_zero, List.drop_succ_cons, List.drop_zero] at k17 ⊢
                refine quiet_cut 16 (fun K16 k16 => ?_)
                simp only [List.take_succ_cons, List.take_zero, List.drop_succ_cons, List.drop_zero] at k16 ⊢
                refine quiet_cut 15 (fun K15 k15 => ?_)
                simp only [List.take_succ_cons, List.take_zero, List.drop_succ_cons, List.drop_zero] at k15 ⊢
                refine quiet_cut 14 (fun K14 k14 => ?_)
                simp only [List.take_succ_cons, List.take_zero, List.drop_succ_cons, List.drop_zero] at k14 ⊢
                refine quiet_cut 13 (fun K13 k13 => ?_)
                simp only [List.take_succ_cons, List.take_zero, List.drop_succ_cons, List.drop_zero] at k13 ⊢
                refine quiet_cut 12 (fun K12 k12 => ?_)
                simp only [List.take_succ_cons, List.take_zero, List.drop_succ_cons, List.drop_zero] at k12 ⊢
                quiet_step (exact CS.out _ _)
                quiet_step (exact CS.out _ _)
                quiet_step (exact CS.out _ _)
                quiet_step (exact CS.out _ _)
                quiet_step (exact CS.out _ _)
                quiet_step (exact CS.out _ _)
                quiet_step (exact CS.out _ _)
                quiet_step (exact CS.out _ _)
                quiet_step (exact CS.out _ _)
                quiet_step (exact CS.out _ _)
                quiet_step (exact CS.out _ _)
                quiet_step (exact CS.out _ _)
                refine wpQuiet_nil ?_
                refine k12 _ ?_
                quiet_step (exact CS.out _ _)
                refine wpQuiet_nil ?_
                refine k13 _ ?_
                quiet_step (exact CA.out _ _)
                refine wpQuiet_nil ?_
                refine k14 _ ?_
                quiet_step (exact CA.out _ _)
                refine wpQuiet_nil ?_
                refine k15 _ ?_
                quiet_step (exact CA.out _ _)
                refine wpQuiet_nil ?_
                refine k16 _ ?_
                quiet_step (exact CA.out _ _)
                refine wpQuiet_nil ?_
                refine k17 _ ?_
                quiet_step (exact CA.out _ _)
                refine wpQuiet_nil ?_
                refine k18 _ ?_
                quiet_step (exact CA.out _ _)
                refine wpQuiet_nil ?_
                refine k19 _ ?_
                quiet_step (exact CA.out _ _)
                refine wpQuiet_nil ?_
                refine k20 _ ?_
                quiet_step (exact CB.out _ _)
                refine wpQuiet_nil ?_
                refine k21 _ ?_
                quiet_step (exact CB.out _ _)
                refine wpQuiet_nil ?_
                refine k22 _ ?_
                quiet_step (exact CB.out _ _)
                refine wpQuiet_nil ?_
                refine k23 _ ?_
                quiet_step (exact CB.out _ _)
                refine wpQuiet_nil ?_
                refine k24 _ ?_
                quiet_step (exact CB.out _ _)
                refine wpQuiet_nil ?_
                refine k25 _ ?_
                quiet_step (exact CB.out _ _)
                refine wpQuiet_nil ?_
                refine k26 _ ?_
                quiet_step (exact CB.out _ _)
                refine wpQuiet_nil ?_
                refine k27 _ ?_
                quiet_step (exact CB.out _ _)
                refine wpQuiet_nil ?_
                intro wG hw'
                have hbG : Below wq.heap.size wq wG := by
                  obtain ⟨pG, rfl⟩ := hw'
                  exact below_regrown _ _ _
                clear hw'
                have HZG := Lib.hid (HZQ.out.trans (hbG.mono HZQ.out.size))
                clear hbG x0 x1 ci ck
                go_wp2_with fail
                go_roundw
                case rel => exact ⟨k + 1, by omega, by go_num, HA2.out, HZG.out⟩
                case measure => simp [intOf]; omega
        · obtain rfl : k = ps.length := by omega
          rw [List.take_length] at HALL
          have HR := Lib.hid (show bisB l ps = true from HALL.out)
          clear hall hbel hbx
          go_wp2_with fail
          go_ret2
          exact ⟨by rw [HOK2.out, HR.out]; rfl, HZ5.out⟩

end Go.Proofs.YtdgnhfhaaghoaaaGreatDoor
