/- What a process of ambients is: program and reference walked; the law that they agree. -/
import Derived.Test.YtoofnicpjgmneaaDoorProg
import Derived.Test.YtoofnicpjgmneaaDoorName
import Derived.Test.YtoofnicpjgmneaaDoorProc
set_option linter.unusedVariables false
namespace Go.Proofs.YtoofnicpjgmneaaDoor
open Go.RowKit

def goodN (k : Nat) (x : Nd) : Bool := inB x.1 0 3 && nameB x.2.1 && inB x.2.2 (-1) ((k : Int) - 1)
def goodFrom : Nat → List Nd → Bool
  | _, [] => true
  | k, x :: r => goodN k x && goodFrom (k + 1) r
def procB (l : List Nd) : Bool := goodFrom 0 l && decide (l.length ≤ 8)

theorem goodFrom_at (l : List Nd) (k : Nat) (h : k < l.length) : goodFrom k (l.drop k) = (goodN k l[k] && goodFrom (k + 1) (l.drop (k + 1))) := by
  rw [List.drop_eq_getElem_cons h, goodFrom]
theorem goodFrom_end (l : List Nd) (k : Nat) : goodFrom k (l.drop l.length) = true := by
  rw [List.drop_eq_nil_of_le (Nat.le_refl _)]
  rfl

set_option maxRecDepth 100000 in
set_option maxHeartbeats 1000000 in
theorem isProcess_any (v : Value) (l : List Nd) (w : World) (hv : RProc w v l) (hs : ∀ x ∈ l, x.2.1.size ≤ maxLen) (hn : l.length ≤ 16777216) :
    Calls Tryd.prog 9 #[v] w fun e w' => e = .returned (.bool (procB l)) ∧ Below w.heap.size w w' := by
  obtain ⟨sv, rfl, hsv⟩ := hv
  have HV := Lib.hid (show ∀ W, Below w.heap.size w W → RSl RN 3 W sv l from fun W hb => hsv.below RN_keep hb)
  obtain ⟨A, c, rfl, hm⟩ := hsv.form
  clear hsv hm
  unfold procB
  go_enter Tryd.func9, Tryd.ntmps9
  go_wp2
  go_loopw [8] (fun i wr => ∃ k : Nat, k ≤ l.length ∧ i = .int .i64 k ∧ goodFrom 0 l = goodFrom k (l.drop k) ∧ Below w.heap.size w wr ∧ wr.heap[w.heap.size]? = some (.cells #[.slice A l.length c] 29))
    (fun i _ => l.length - (intOf i).toNat)
  case atStart => exact ⟨0, Nat.zero_le _, rfl, rfl, (Below.refl _ _).alloc (Nat.le_refl _) _, heap_alloc_new _ _⟩
  case round =>
    obtain ⟨k, hk, rfl, hE, hbel, hbox⟩ := hrel
    have q0 := cell_of_row wr _ 0 _ _ _ hbox
    by_cases hlt : k < l.length
    · obtain ⟨b, o, c', cs, ev, hcl, hcr, hc⟩ := (HV.out wr hbel).at_ (by omega) (List.getElem?_eq_getElem hlt)
      cases ev
      rw [goodFrom_at _ _ hlt] at hE
      have hsz := hs _ (List.getElem_mem hlt)
      have HE0 := Lib.hid hE
      clear hE
      generalize l[k] = x at *
      subst hcr
      have k0 := hc 0 _ rfl
      have k1 := hc 1 _ rfl
      have k2 := hc 2 _ rfl
      rw [Nat.add_zero] at k0
      rw [← Nat.add_assoc] at k1 k2
      clear hc hcl
      have HB := Lib.hid hbel
      have HBX := Lib.hid hbox
      clear hbel hbox
      by_cases g1 : inB x.1 0 3 = true
      · by_cases g2 : nameB x.2.1 = true
        · by_cases g3 : inB x.2.2 (-1) ((k : Int) - 1) = true
          · have HE := Lib.hid (show goodFrom 0 l = goodFrom (k + 1) (l.drop (k + 1)) by rw [HE0.out]; unfold goodN; rw [g1, g2, g3]; simp only [Bool.true_and])
            have H := Lib.hid (fun W => isName_any x.2.1 W hsz)
            rw [g2] at H
            go_wp2_with fail
            with_reducible refine (within_any ..).mono ?_
            rintro e w1 ⟨rfl, rfl⟩
            rw [g1]
            go_wp2_with fail
            refine (H.out _).mono ?_
            rintro e w2 ⟨rfl, hb2⟩
            obtain ⟨bx, _⟩ := one_box hb2
            have q2 := cell_of_row w2 _ 2 _ _ _ bx
            have HB2 := Lib.hid (((Below.refl wr.heap.size wr).alloc (Nat.le_refl _) _).trans (hb2.mono (by simp)))
            clear hb2 bx
            go_wp2_with fail
            with_reducible refine (within_any ..).mono ?_
            rintro e w3 ⟨rfl, rfl⟩
            rw [g3]
            go_wp2_with fail
            go_roundw
            case rel => exact ⟨k + 1, by omega, by go_num, HE.out, HB.out.trans (HB2.out.mono HB.out.size), (HB2.out.block _ (by have := (Array.getElem?_eq_some_iff.1 HBX.out).1; omega)).trans HBX.out⟩
            case measure => simp [intOf]; omega
          · have g3 : inB x.2.2 (-1) ((k : Int) - 1) = false := by simpa using g3
            have HE := Lib.hid (show (goodFrom 0 l && decide (l.length ≤ 8)) = false from by rw [HE0.out]; unfold goodN; rw [g3]; simp only [Bool.and_false, Bool.false_and, Bool.true_and])
            have H := Lib.hid (fun W => isName_any x.2.1 W hsz)
            rw [g2] at H
            go_wp2_with fail
            with_reducible refine (within_any ..).mono ?_
            rintro e w1 ⟨rfl, rfl⟩
            rw [g1]
            go_wp2_with fail
            refine (H.out _).mono ?_
            rintro e w2 ⟨rfl, hb2⟩
            obtain ⟨bx, _⟩ := one_box hb2
            have q2 := cell_of_row w2 _ 2 _ _ _ bx
            have HB2 := Lib.hid (((Below.refl wr.heap.size wr).alloc (Nat.le_refl _) _).trans (hb2.mono (by simp)))
            clear hb2 bx
            go_wp2_with fail
            with_reducible refine (within_any ..).mono ?_
            rintro e w3 ⟨rfl, rfl⟩
            rw [g3]
            go_wp2_with fail
            go_ret
            exact ⟨by rw [HE.out]; rfl, HB.out.trans (HB2.out.mono HB.out.size)⟩
        · have g2 : nameB x.2.1 = false := by simpa using g2
          have HE := Lib.hid (show (goodFrom 0 l && decide (l.length ≤ 8)) = false from by rw [HE0.out]; unfold goodN; rw [g2]; simp only [Bool.and_false, Bool.false_and, Bool.true_and])
          have H := Lib.hid (fun W => isName_any x.2.1 W hsz)
          rw [g2] at H
          go_wp2_with fail
          with_reducible refine (within_any ..).mono ?_
          rintro e w1 ⟨rfl, rfl⟩
          rw [g1]
          go_wp2_with fail
          refine (H.out _).mono ?_
          rintro e w2 ⟨rfl, hb2⟩
          obtain ⟨bx, _⟩ := one_box hb2
          have q2 := cell_of_row w2 _ 2 _ _ _ bx
          have HB2 := Lib.hid (((Below.refl wr.heap.size wr).alloc (Nat.le_refl _) _).trans (hb2.mono (by simp)))
          clear hb2 bx
          go_wp2_with fail
          go_ret
          exact ⟨by rw [HE.out]; rfl, HB.out.trans (HB2.out.mono HB.out.size)⟩
      · have g1 : inB x.1 0 3 = false := by simpa using g1
        have HE := Lib.hid (show (goodFrom 0 l && decide (l.length ≤ 8)) = false from by rw [HE0.out]; unfold goodN; rw [g1]; simp only [Bool.and_false, Bool.false_and, Bool.true_and])
        go_wp2_with fail
        with_reducible refine (within_any ..).mono ?_
        rintro e w1 ⟨rfl, rfl⟩
        rw [g1]
        go_wp2_with fail
        go_ret
        exact ⟨by rw [HE.out]; rfl, HB.out.trans (((Below.refl wr.heap.size wr).alloc (Nat.le_refl _) _).mono HB.out.size)⟩
    · obtain rfl : k = l.length := by omega
      rw [goodFrom_end] at hE
      have HE := Lib.hid hE
      clear hE hlt hk
      by_cases h8 : l.length ≤ 8
      · go_wp2_with fail
        go_ret
        exact ⟨by rw [HE.out]; simp [h8]; omega, hbel⟩
      · go_wp2_with fail
        go_ret
        exact ⟨by rw [HE.out]; simp [h8]; omega, hbel⟩

set_option maxRecDepth 100000 in
set_option maxHeartbeats 1000000 in
theorem l12Good_any (v : Value) (l : List Nd) (w : World) (hv : RProc w v l) (hs : ∀ x ∈ l, x.2.1.size ≤ maxLen) (hn : l.length ≤ 16777216) :
    Calls Tryd.prog 16 #[v] w fun e w' => e = .returned (.bool (procB l)) ∧ Below w.heap.size w w' := by
  obtain ⟨sv, rfl, hsv⟩ := hv
  have HV := Lib.hid (show ∀ W, Below w.heap.size w W → RSl RN 3 W sv l from fun W hb => hsv.below RN_keep hb)
  obtain ⟨A, c, rfl, hm⟩ := hsv.form
  clear hsv hm
  unfold procB
  go_enter Tryd.func16, Tryd.ntmps16
  go_wp2
  go_loopw [3] (fun i wr => ∃ k : Nat, k ≤ l.length ∧ i = .int .i64 k ∧ goodFrom 0 l = goodFrom k (l.drop k) ∧ Below w.heap.size w wr ∧ wr.heap[w.heap.size]? = some (.cells #[.slice A l.length c] 29))
    (fun i _ => l.length - (intOf i).toNat)
  case atStart => exact ⟨0, Nat.zero_le _, rfl, rfl, (Below.refl _ _).alloc (Nat.le_refl _) _, heap_alloc_new _ _⟩
  case round =>
    obtain ⟨k, hk, rfl, hE, hbel, hbox⟩ := hrel
    have q0 := cell_of_row wr _ 0 _ _ _ hbox
    by_cases hlt : k < l.length
    · obtain ⟨b, o, c', cs, ev, hcl, hcr, hc⟩ := (HV.out wr hbel).at_ (by omega) (List.getElem?_eq_getElem hlt)
      cases ev
      rw [goodFrom_at _ _ hlt] at hE
      have hsz := hs _ (List.getElem_mem hlt)
      have HE0 := Lib.hid hE
      clear hE
      generalize l[k] = x at *
      subst hcr
      have k0 := hc 0 _ rfl
      have k1 := hc 1 _ rfl
      have k2 := hc 2 _ rfl
      rw [Nat.add_zero] at k0
      rw [← Nat.add_assoc] at k1 k2
      clear hc hcl
      have HB := Lib.hid hbel
      have HBX := Lib.hid hbox
      clear hbel hbox
      by_cases g1 : inB x.1 0 3 = true
      · by_cases g2 : nameB x.2.1 = true
        · by_cases g3 : inB x.2.2 (-1) ((k : Int) - 1) = true
          · have HE := Lib.hid (show goodFrom 0 l = goodFrom (k + 1) (l.drop (k + 1)) by rw [HE0.out]; unfold goodN; rw [g1, g2, g3]; simp only [Bool.true_and])
            have H := Lib.hid (fun W => l2Name_any x.2.1 W hsz)
            rw [g2] at H
            go_wp2_with fail
            with_reducible refine (l1In_any ..).mono ?_
            rintro e w1 ⟨rfl, rfl⟩
            rw [g1]
            go_wp2_with fail
            refine (H.out _).mono ?_
            rintro e w2 ⟨rfl, rfl⟩
            go_wp2_with fail
            with_reducible refine (l1In_any ..).mono ?_
            rintro e w3 ⟨rfl, rfl⟩
            rw [g3]
            go_wp2_with fail
            go_roundw
            case rel => exact ⟨k + 1, by omega, by go_num, HE.out, HB.out.trans (((Below.refl wr.heap.size wr).alloc (Nat.le_refl _) _).mono HB.out.size), (heap_alloc_old _ _ (by have := (Array.getElem?_eq_some_iff.1 HBX.out).1; omega)).trans HBX.out⟩
            case measure => simp [intOf]; omega
          · have g3 : inB x.2.2 (-1) ((k : Int) - 1) = false := by simpa using g3
            have HE := Lib.hid (show (goodFrom 0 l && decide (l.length ≤ 8)) = false from by rw [HE0.out]; unfold goodN; rw [g3]; simp only [Bool.and_false, Bool.false_and, Bool.true_and])
            have H := Lib.hid (fun W => l2Name_any x.2.1 W hsz)
            rw [g2] at H
            go_wp2_with fail
            with_reducible refine (l1In_any ..).mono ?_
            rintro e w1 ⟨rfl, rfl⟩
            rw [g1]
            go_wp2_with fail
            refine (H.out _).mono ?_
            rintro e w2 ⟨rfl, rfl⟩
            go_wp2_with fail
            with_reducible refine (l1In_any ..).mono ?_
            rintro e w3 ⟨rfl, rfl⟩
            rw [g3]
            go_wp2_with fail
            go_ret
            exact ⟨by rw [HE.out]; rfl, HB.out.trans (((Below.refl wr.heap.size wr).alloc (Nat.le_refl _) _).mono HB.out.size)⟩
        · have g2 : nameB x.2.1 = false := by simpa using g2
          have HE := Lib.hid (show (goodFrom 0 l && decide (l.length ≤ 8)) = false from by rw [HE0.out]; unfold goodN; rw [g2]; simp only [Bool.and_false, Bool.false_and, Bool.true_and])
          have H := Lib.hid (fun W => l2Name_any x.2.1 W hsz)
          rw [g2] at H
          go_wp2_with fail
          with_reducible refine (l1In_any ..).mono ?_
          rintro e w1 ⟨rfl, rfl⟩
          rw [g1]
          go_wp2_with fail
          refine (H.out _).mono ?_
          rintro e w2 ⟨rfl, rfl⟩
          go_wp2_with fail
          go_ret
          exact ⟨by rw [HE.out]; rfl, HB.out.trans (((Below.refl wr.heap.size wr).alloc (Nat.le_refl _) _).mono HB.out.size)⟩
      · have g1 : inB x.1 0 3 = false := by simpa using g1
        have HE := Lib.hid (show (goodFrom 0 l && decide (l.length ≤ 8)) = false from by rw [HE0.out]; unfold goodN; rw [g1]; simp only [Bool.and_false, Bool.false_and, Bool.true_and])
        go_wp2_with fail
        with_reducible refine (l1In_any ..).mono ?_
        rintro e w1 ⟨rfl, rfl⟩
        rw [g1]
        go_wp2_with fail
        go_ret
        exact ⟨by rw [HE.out]; rfl, HB.out.trans (((Below.refl wr.heap.size wr).alloc (Nat.le_refl _) _).mono HB.out.size)⟩
    · obtain rfl : k = l.length := by omega
      rw [goodFrom_end] at hE
      have HE := Lib.hid hE
      clear hE hlt hk
      by_cases h8 : l.length ≤ 8
      · go_wp2_with fail
        go_ret
        exact ⟨by rw [HE.out]; simp [h8]; omega, hbel⟩
      · go_wp2_with fail
        go_ret
        exact ⟨by rw [HE.out]; simp [h8]; omega, hbel⟩

end Go.Proofs.YtoofnicpjgmneaaDoor
