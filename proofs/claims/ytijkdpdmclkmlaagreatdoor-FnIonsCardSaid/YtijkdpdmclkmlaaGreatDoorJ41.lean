/- Elements: new names, closures: walked. -/
import Derived.Test.YtijkdpdmclkmlaaGreatDoorProg
import Derived.Test.YtijkdpdmclkmlaaGreatDoorJ0
import Derived.Test.YtijkdpdmclkmlaaGreatDoorJ40
import Derived.BigQuiet
set_option linter.unusedSimpArgs false
set_option linter.unusedVariables false
set_option maxRecDepth 100000
set_option maxHeartbeats 16000000
namespace Go.Proofs.YtijkdpdmclkmlaaGreatDoor
open Go.RowKit
section
variable {w w0 W W' : World} {B P : Nat} {bx : Array Value} {names : List ByteArray} {n : Int} {AI v : Value} {j : Nat}
theorem clo_I {f : Nat → Wi} (h : GT w0 B P bx ⟨0, n, nilV, nilV, nilV, AI, [], [], [], [], (List.range j).map f⟩ W) : W.ownsRow B 90 2 AI j (((List.range j).map f).flatMap encWi) := by
 have h := h.ob.I
 rwa [show (List.map f (List.range j)).length = j from by simp] at h
theorem clo_add {f : Nat → Wi} (h : GT w0 B P bx ⟨0, n, nilV, nilV, nilV, AI, [], [], [], [], (List.range j).map f⟩ W) (ho : W'.ownsRow B 90 2 v (j + 1) (((List.range j).map f).flatMap encWi ++ [.string (f j).1, .int .i64 (f j).2])) (hk : Kept (fun q => AI.ownBlock = some q) W W') : GT w0 B P bx ⟨0, n, nilV, nilV, nilV, v, [], [], [], [], (List.range (j + 1)).map f⟩ W' := by
 have := h.appI (x := f j) (v := v) (by rw [show (List.map f (List.range j)).length = j from by simp]; exact ho) hk
 rw [rm_succ]
 exact this
end

theorem implNewNames_any (A : Option Addr) (c : Nat) (names : List ByteArray) (w : World) (hl : names.length ≤ 1000) (hz : ∀ s ∈ names, s.size ≤ 1000) (hA : Cells w A (strs names)) :
  Calls Tryz.prog 41 #[.slice A names.length c] w fun e w' => ∃ X : BX, e = .returned (.tuple #[.agg X.cells, .bool (namesB names)]) ∧ X.g = (if namesB names then newG names else zeroG) ∧ RG w w' X := by
 have HA := Lib.hid (show ∀ W, Below w.heap.size w W → Cells W A (strs names) from fun W hb => hA.below hb)
 obtain ⟨w0, hw0, hb0, hs0, hR0⟩ := laid1 w (.cells ZB 31)
 have HB0 := Lib.hid hb0
 have HR0 := Lib.hid hR0
 have HN := Lib.hid (areNames_any A c names w0 hl hz (HA.out w0 hb0))
 have HW0 := Lib.hid (show w.alloc (.cells #[.int .i64 0, .slice none 0 0, .slice none 0 0, .int .i64 0, .slice none 0 0, .slice none 0 0] 31) = w0 from hw0.symm)
 clear hb0 hR0 hw0
 clear hA hz
 cases c1 : namesB names
 ·rw [c1] at HN
  clear c1
  go_enter Tryz.func41, Tryz.ntmps41
  go_wp2_with fail
  rw [HW0.out]
  (with_reducible refine HN.out.mono ?_)
  rintro e w1 ⟨rfl, hb1⟩
  have HB2 := Lib.hid hb1
  clear hb1
  have hRW := (HB2.out.block w.heap.size (by omega)).trans HR0.out
  obtain ⟨z0, z1, z2, z3, z4, z5, f0, f1, f2, f3, f4, f5⟩ := row6f hRW
  clear hRW
  go_wp2_with fail
  have hf := fin6_of (X := zeroX) HB0.out HR0.out (by have := (Kept.of_below HB2.out (fun q => w.heap.size + 1 ≤ q)).size; omega) ((Kept.of_below HB2.out (fun q => w.heap.size + 1 ≤ q))) (zero_ob _ _)
  (try simp only [Exit.inBlock, Exit.then])
  refine bodyPost_ret (rcell2 rfl _ _ w.heap.size _ _ _ _ rfl hf.1 Tryz.underlying31 rfl (by kernel_rfl)) rfl ?_
  exact ⟨_, rfl, rfl, hf.2⟩
 rw [c1] at HN
 clear c1
 go_enter Tryz.func41, Tryz.ntmps41
 go_wp2_with fail
 rw [HW0.out]
 (with_reducible refine HN.out.mono ?_)
 rintro e w1 ⟨rfl, hb1⟩
 have HB2 := Lib.hid hb1
 have hs1 := hb1.size
 have HAW := Lib.hid (HA.out w1 (HB0.out.trans (hb1.mono HB0.out.size)))
 clear hb1
 have HC := Lib.hid (cloneSG_any A c names w1 (by omega) HAW.out)
 go_wp2_with fail
 (with_reducible refine HC.out.mono ?_)
 rintro e w9 ⟨u, rfl, hu, hb⟩
 obtain ⟨AO, cO, rfl, hu⟩ := owns_form hu
 have HU := Lib.hid (owns_mono hu (show w.heap.size + 1 ≤ w1.heap.size by omega))
 have HB9 := Lib.hid (HB2.out.trans (hb.mono HB2.out.size))
 clear hu hb HC
 have hsz9 := HB9.out.size
 have hRW := (HB9.out.block w.heap.size (by omega)).trans HR0.out
 obtain ⟨z0, z1, z2, z3, z4, z5, f0, f1, f2, f3, f4, f5⟩ := row6f hRW
 clear hRW
 go_wp2_with fail
 have hf := fin6_of (X := ⟨0, 0, nilV, nilV, .slice AO names.length cO, nilV, [], [], [], names, []⟩) HB0.out HR0.out (by have := (Kept.of_below HB9.out (fun q => w.heap.size + 1 ≤ q)).size; omega) ((Kept.of_below HB9.out (fun q => w.heap.size + 1 ≤ q))) ({ N := { own := none_row, len := rfl, lk := fun i l x h => by simp at h, dis := fun i j l l' b _ h => by simp at h, sep := fun i l b h => by simp at h }, S := none_row, I := none_row, O := HU.out })
 (try simp only [Exit.inBlock, Exit.then])
 refine bodyPost_ret (rcell2 rfl _ _ w.heap.size _ _ _ _ rfl hf.1 Tryz.underlying31 rfl (by kernel_rfl)) rfl ?_
 exact ⟨_, rfl, rfl, hf.2⟩

theorem specNewNames_any (A : Option Addr) (c : Nat) (names : List ByteArray) (w : World) (hl : names.length ≤ 1000) (hz : ∀ s ∈ names, s.size ≤ 1000) (hA : Cells w A (strs names)) :
  Calls Tryz.prog 42 #[.slice A names.length c] w fun e w' => ∃ X : BX, e = .returned (.tuple #[.agg X.cells, .bool (namesB names)]) ∧ X.g = (if namesB names then newG names else zeroG) ∧ RG w w' X := by
 have HA := Lib.hid (show ∀ W, Below w.heap.size w W → Cells W A (strs names) from fun W hb => hA.below hb)
 obtain ⟨w0, hw0, hb0, hs0, hR0⟩ := laid1 w (.cells ZB 31)
 have HB0 := Lib.hid hb0
 have HR0 := Lib.hid hR0
 have HN := Lib.hid (l3Names_any A c names w0 hl hz (HA.out w0 hb0))
 have HW0 := Lib.hid (show w.alloc (.cells #[.int .i64 0, .slice none 0 0, .slice none 0 0, .int .i64 0, .slice none 0 0, .slice none 0 0] 31) = w0 from hw0.symm)
 clear hb0 hR0 hw0
 clear hA hz
 cases c1 : namesB names
 ·rw [c1] at HN
  clear c1
  go_enter Tryz.func42, Tryz.ntmps42
  go_wp2_with fail
  rw [HW0.out]
  (with_reducible refine HN.out.mono ?_)
  rintro e w1 ⟨rfl, hb1⟩
  have HB2 := Lib.hid hb1
  clear hb1
  have hRW := (HB2.out.block w.heap.size (by omega)).trans HR0.out
  obtain ⟨z0, z1, z2, z3, z4, z5, f0, f1, f2, f3, f4, f5⟩ := row6f hRW
  clear hRW
  go_wp2_with fail
  have hf := fin6_of (X := zeroX) HB0.out HR0.out (by have := (Kept.of_below HB2.out (fun q => w.heap.size + 1 ≤ q)).size; omega) ((Kept.of_below HB2.out (fun q => w.heap.size + 1 ≤ q))) (zero_ob _ _)
  (try simp only [Exit.inBlock, Exit.then])
  refine bodyPost_ret (rcell2 rfl _ _ w.heap.size _ _ _ _ rfl hf.1 Tryz.underlying31 rfl (by kernel_rfl)) rfl ?_
  exact ⟨_, rfl, rfl, hf.2⟩
 rw [c1] at HN
 clear c1
 go_enter Tryz.func42, Tryz.ntmps42
 go_wp2_with fail
 rw [HW0.out]
 (with_reducible refine HN.out.mono ?_)
 rintro e w1 ⟨rfl, hb1⟩
 have HB2 := Lib.hid hb1
 have hs1 := hb1.size
 have HAW := Lib.hid (HA.out w1 (HB0.out.trans (hb1.mono HB0.out.size)))
 clear hb1
 obtain ⟨wa, hwa, hba, hsa, -⟩ := laid1 w1 (.cells #[] 9)
 have HOM := Lib.hid (show wa.ownsRow w1.heap.size 9 1 (.slice (some ⟨w1.heap.size, 0, none⟩) 0 0) 0 [] from by rw [hwa]; exact made_rowG w1 9)
 have HAA := Lib.hid (HAW.out.below hba)
 have HBA := Lib.hid hba
 have HWA := Lib.hid hwa
 clear hwa hba
 go_wp2_with (first | rw [← HWA.out] | (at_builtin; refine wpList_appC el_strG rfl _ _ rfl w1.heap.size _ 0 [] rfl HOM.out A names.length c (strs names) rfl (by simp) HAA.out (strs_one1 _) (by omega) (by omega) ?_; intro v2 w9 ho hk2 hm2; rw [List.nil_append, Nat.zero_add] at ho; have HB9 := Lib.hid (HB2.out.trans ((HBA.out.trans (hk2.below (fun q hq => (HOM.out.lt q hq).1) (by omega))).mono HB2.out.size)); obtain ⟨AO, cO, rfl, hu⟩ := owns_form ho; have HU := Lib.hid (owns_mono hu (show w.heap.size + 1 ≤ w1.heap.size by omega)); clear ho hk2 hm2 hu; have hsz9 := HB9.out.size; have hRW := (HB9.out.block w.heap.size (by omega)).trans HR0.out; obtain ⟨z0, z1, z2, z3, z4, z5, f0, f1, f2, f3, f4, f5⟩ := row6f hRW; clear hRW))
 have hf := fin6_of (X := ⟨0, 0, nilV, nilV, .slice AO names.length cO, nilV, [], [], [], names, []⟩) HB0.out HR0.out (by have := (Kept.of_below HB9.out (fun q => w.heap.size + 1 ≤ q)).size; omega) ((Kept.of_below HB9.out (fun q => w.heap.size + 1 ≤ q))) ({ N := { own := none_row, len := rfl, lk := fun i l x h => by simp at h, dis := fun i j l l' b _ h => by simp at h, sep := fun i l b h => by simp at h }, S := none_row, I := none_row, O := HU.out })
 (try simp only [Exit.inBlock, Exit.then])
 refine bodyPost_ret (rcell2 rfl _ _ w.heap.size _ _ _ _ rfl hf.1 Tryz.underlying31 rfl (by kernel_rfl)) rfl ?_
 exact ⟨_, rfl, rfl, hf.2⟩

theorem implClosureOf_any (A : Option Addr) (c : Nat) (names : List ByteArray) (w : World) (hl : names.length ≤ 1000) (hz : ∀ s ∈ names, s.size ≤ 1000) (hA : Cells w A (strs names)) :
    Calls Tryz.prog 43 #[.slice A names.length c] w fun e w' => ∃ X : BX, e = .returned (.tuple #[.agg X.cells, .bool (namesB names && decide (names.length ≤ 8))]) ∧ X.g = (if namesB names && decide (names.length ≤ 8) then cloG names else zeroG) ∧ RG w w' X := by
  have HA := Lib.hid (show ∀ W, Below w.heap.size w W → Cells W A (strs names) from fun W hb => hA.below hb)
  obtain ⟨w0, hw0, hb0, hs0, hR0⟩ := laid1 w (.cells ZB 31)
  have HB0 := Lib.hid hb0
  have HR0 := Lib.hid hR0
  have HN := Lib.hid (areNames_any A c names w0 hl hz (HA.out w0 hb0))
  have HW0 := Lib.hid (show w.alloc (.cells #[.int .i64 0, .slice none 0 0, .slice none 0 0, .int .i64 0, .slice none 0 0, .slice none 0 0] 31) = w0 from hw0.symm)
  clear hb0 hR0 hw0
  clear hA hz
  have HE := Lib.hid (rfl : (namesB names && decide (names.length ≤ 8)) = (namesB names && decide (names.length ≤ 8)))
  cases c1 : namesB names
  · rw [c1] at HN
    clear c1 HE
    go_enter Tryz.func43, Tryz.ntmps43
    go_wp2_with fail
    rw [HW0.out]
    (with_reducible refine HN.out.mono ?_)
    rintro e w1 ⟨rfl, hb1⟩
    have HB2 := Lib.hid (hb1)
    clear hb1
    have hRW := (HB2.out.block w.heap.size (by omega)).trans HR0.out
    obtain ⟨z0, z1, z2, z3, z4, z5, f0, f1, f2, f3, f4, f5⟩ := row6f hRW
    clear hRW
    go_wp2_with fail
    have hf := fin6_of (X := zeroX) HB0.out HR0.out (by have := (Kept.of_below HB2.out (fun q => w.heap.size + 1 ≤ q)).size; omega) ((Kept.of_below HB2.out (fun q => w.heap.size + 1 ≤ q))) (zero_ob _ _)
    (try simp only [Exit.inBlock, Exit.then])
    refine bodyPost_ret (rcell2 rfl _ _ w.heap.size _ _ _ _ rfl hf.1 Tryz.underlying31 rfl (by kernel_rfl)) rfl ?_
    exact ⟨_, rfl, rfl, hf.2⟩
  rw [c1] at HN
  clear c1 HE
  by_cases h8 : names.length ≤ 8
  · have HD8 := Lib.hid (show decide (names.length ≤ 8) = true from by simp [h8])
    have e8 : decide ((8 : Int) < (names.length : Int)) = false := by rw [decide_eq_false_iff_not]; omega
    rw [HD8.out]
    clear h8
    go_enter Tryz.func43, Tryz.ntmps43
    go_wp2_with fail
    rw [HW0.out]
    (with_reducible refine HN.out.mono ?_)
    rintro e w1 ⟨rfl, hb1⟩
    have HB2 := Lib.hid (hb1)
    have hs1 := HB2.out.size
    clear hb1
    obtain ⟨wN, hwN, hbn, hsn, hPn⟩ := laid1 w1 (.cells #[.int .i64 0, .slice none 0 0, .slice none 0 0, .int .i64 (names.length : Int), .slice none 0 0, .slice none 0 0] 31)
    have HBX := Lib.hid (HB0.out.trans ((HB2.out.trans (hbn.mono HB2.out.size)).mono HB0.out.size))
    have HRN := Lib.hid (((HB2.out.trans (hbn.mono HB2.out.size)).block w.heap.size (by omega)).trans HR0.out)
    have HWN := Lib.hid hwN
    have HG0 := Lib.hid (show GT wN (w.heap.size + 1) w1.heap.size (BX.cells ⟨0, (names.length : Int), nilV, nilV, nilV, nilV, [], [], [], [], (List.range 0).map (fun i : Nat => (names.getD i default, (i : Int)))⟩) ⟨0, (names.length : Int), nilV, nilV, nilV, nilV, [], [], [], [], (List.range 0).map (fun i : Nat => (names.getD i default, (i : Int)))⟩ wN from
      { k := Kept.refl _ _, box := hPn
        ob := { N := { own := none_row, len := rfl, lk := fun i l x h => by simp at h, dis := fun i j l l' b _ h => by simp at h, sep := fun i l b h => by simp at h }, S := none_row, O := none_row, I := none_row } })
    have hsN : w.heap.size + 1 ≤ wN.heap.size := by omega
    clear HN hPn hbn hwN
    go_wp2_with fail
    rw [← HWN.out]
    go_loopw [21] (fun i wr => ∃ (j : Nat) (iv : Value), j ≤ names.length ∧ i = .int .i64 j ∧ GT wN (w.heap.size + 1) w1.heap.size (BX.cells ⟨0, (names.length : Int), nilV, nilV, nilV, iv, [], [], [], [], (List.range j).map (fun i : Nat => (names.getD i default, (i : Int)))⟩) ⟨0, (names.length : Int), nilV, nilV, nilV, iv, [], [], [], [], (List.range j).map (fun i : Nat => (names.getD i default, (i : Int)))⟩ wr)
      (fun i _ => names.length - (intOf i).toNat)
    case atStart => exact ⟨0, nilV, Nat.zero_le _, rfl, HG0.out⟩
    obtain ⟨j, iv, hj, rfl, hG⟩ := hrel
    have hI : wr.ownsRow (w.heap.size + 1) 90 2 iv j (((List.range j).map (fun i : Nat => (names.getD i default, (i : Int)))).flatMap encWi) := by
      have h := hG.ob.I
      rwa [show (List.map (fun i : Nat => (names.getD i default, (i : Int))) (List.range j)).length = j from by simp] at h
    obtain ⟨AI, cI, rfl, hI⟩ := owns_form hI
    have hsz : w.heap.size + 1 ≤ wr.heap.size := by have := hG.k.size; omega
    have z5 := hG.cell (f := 5) (u := .slice AI j cI) rfl
    have HI := Lib.hid hI
    have HG := Lib.hid hG
    clear hI
    by_cases hlt : j < names.length
    · obtain ⟨b, o, rfl, hc⟩ := (HA.out wr (gt_below hG HBX.out (by omega))).str hlt
      have k0 := hc j hlt
      obtain ⟨s, hse⟩ : ∃ s, s = names.getD j default := ⟨_, rfl⟩
      rw [← hse] at k0
      have HSE := Lib.hid hse
      clear hc hse hG
      go_wp2_with (at_builtin; refine wpList_app el_wireG rfl _ _ rfl (w.heap.size + 1) _ _ _ rfl HI.out [.string s, .int .i64 (j : Int)] rfl rfl rfl (wi_one _ _) (by omega) hsz ?_; intro v2 w2 ho hk2 hm2; obtain ⟨Av, cv, rfl, ho⟩ := owns_form ho; have HGN := Lib.hid (clo_add HG.out (by rw [← HSE.out]; exact ho) hk2); have z5 := HGN.out.cell (f := 5) (u := .slice AI j cI) rfl; have f5 := frozen_of_row w2 w1.heap.size 5 _ _ HGN.out.box; clear ho hk2 hm2)
      have HG2 := Lib.hid (HGN.out.put 5 (.slice Av (j + 1) cv))
      go_wp2_with fail
      go_roundw
      case rel => exact ⟨j + 1, _, by omega, by go_num, HG2.out⟩
      case measure => simp [intOf]; omega
    obtain rfl : j = names.length := by omega
    clear hG z5
    have x0 := HG.out.cell (f := 0) (u := .int .i64 0) rfl
    have x1 := HG.out.cell (f := 1) (u := .slice none 0 0) rfl
    have x2 := HG.out.cell (f := 2) (u := .slice none 0 0) rfl
    have x3 := HG.out.cell (f := 3) (u := .int .i64 (names.length : Int)) rfl
    have x4 := HG.out.cell (f := 4) (u := .slice none 0 0) rfl
    have x5 := HG.out.cell (f := 5) (u := .slice AI names.length cI) rfl
    have hRW := (HG.out.k.block w.heap.size (by have := (Array.getElem?_eq_some_iff.1 HRN.out).1; exact this) (by omega)).trans HRN.out
    obtain ⟨z0, z1, z2, z3, z4, z5, f0, f1, f2, f3, f4, f5⟩ := row6f hRW
    clear hRW
    go_wp2_with fail
    have hf := fin6 HBX.out HRN.out (by omega) HG.out
    (try simp only [Exit.inBlock, Exit.then])
    refine bodyPost_ret (rcell2 rfl _ _ w.heap.size _ _ _ _ rfl hf.1 Tryz.underlying31 rfl (by kernel_rfl)) rfl ?_
    exact ⟨_, rfl, rfl, hf.2⟩
  have HD8 := Lib.hid (show decide (names.length ≤ 8) = false from by simp [h8])
  have e8 : decide ((8 : Int) < (names.length : Int)) = true := by rw [decide_eq_true_iff]; omega
  rw [HD8.out]
  clear h8
  go_enter Tryz.func43, Tryz.ntmps43
  go_wp2_with fail
  rw [HW0.out]
  (with_reducible refine HN.out.mono ?_)
  rintro e w1 ⟨rfl, hb1⟩
  have HB2 := Lib.hid (hb1)
  clear hb1
  have hRW := (HB2.out.block w.heap.size (by omega)).trans HR0.out
  obtain ⟨z0, z1, z2, z3, z4, z5, f0, f1, f2, f3, f4, f5⟩ := row6f hRW
  clear hRW
  go_wp2_with fail
  have hf := fin6_of (X := zeroX) HB0.out HR0.out (by have := (Kept.of_below HB2.out (fun q => w.heap.size + 1 ≤ q)).size; omega) ((Kept.of_below HB2.out (fun q => w.heap.size + 1 ≤ q))) (zero_ob _ _)
  (try simp only [Exit.inBlock, Exit.then])
  refine bodyPost_ret (rcell2 rfl _ _ w.heap.size _ _ _ _ rfl hf.1 Tryz.underlying31 rfl (by kernel_rfl)) rfl ?_
  exact ⟨_, rfl, rfl, hf.2⟩

theorem specClosureOf_any (A : Option Addr) (c : Nat) (names : List ByteArray) (w : World) (hl : names.length ≤ 1000) (hz : ∀ s ∈ names, s.size ≤ 1000) (hA : Cells w A (strs names)) :
    Calls Tryz.prog 44 #[.slice A names.length c] w fun e w' => ∃ X : BX, e = .returned (.tuple #[.agg X.cells, .bool (namesB names && decide (names.length ≤ 8))]) ∧ X.g = (if namesB names && decide (names.length ≤ 8) then cloG names else zeroG) ∧ RG w w' X := by
  have HA := Lib.hid (show ∀ W, Below w.heap.size w W → Cells W A (strs names) from fun W hb => hA.below hb)
  obtain ⟨w0, hw0, hb0, hs0, hR0⟩ := laid1 w (.cells ZB 31)
  have HB0 := Lib.hid hb0
  have HR0 := Lib.hid hR0
  have HW0 := Lib.hid (show w.alloc (.cells #[.int .i64 0, .slice none 0 0, .slice none 0 0, .int .i64 0, .slice none 0 0, .slice none 0 0] 31) = w0 from hw0.symm)
  clear hb0 hR0 hw0
  obtain ⟨wN, hwN, hbn, hsn, hPn⟩ := laid1 w0 (.cells #[.int .i64 0, .slice none 0 0, .slice none 0 0, .int .i64 (names.length : Int), .slice none 0 0, .slice none 0 0] 31)
  have HN := Lib.hid (l3Names_any A c names wN hl hz (HA.out wN (HB0.out.trans (hbn.mono HB0.out.size))))
  rw [hs0] at hPn
  have HBN := Lib.hid hbn
  have HPN := Lib.hid hPn
  have HWN := Lib.hid (show (w.alloc (.cells #[.int .i64 0, .slice none 0 0, .slice none 0 0, .int .i64 0, .slice none 0 0, .slice none 0 0] 31)).alloc (.cells #[.int .i64 0, .slice none 0 0, .slice none 0 0, .int .i64 (names.length : Int), .slice none 0 0, .slice none 0 0] 31) = wN from by rw [HW0.out]; exact hwN.symm)
  clear hA hz hbn hPn hwN
  have HE := Lib.hid (rfl : (namesB names && decide (names.length ≤ 8)) = (namesB names && decide (names.length ≤ 8)))
  cases c1 : namesB names
  · rw [c1] at HN
    clear c1 HE
    go_enter Tryz.func44, Tryz.ntmps44
    go_wp2_with fail
    rw [HWN.out]
    (with_reducible refine HN.out.mono ?_)
    rintro e w1 ⟨rfl, hb1⟩
    have HB2 := Lib.hid (HBN.out.trans (hb1.mono HBN.out.size))
    clear hb1
    have hRW := (HB2.out.block w.heap.size (by omega)).trans HR0.out
    obtain ⟨z0, z1, z2, z3, z4, z5, f0, f1, f2, f3, f4, f5⟩ := row6f hRW
    clear hRW
    go_wp2_with fail
    have hf := fin6_of (X := zeroX) HB0.out HR0.out (by have := (Kept.of_below HB2.out (fun q => w.heap.size + 1 ≤ q)).size; omega) ((Kept.of_below HB2.out (fun q => w.heap.size + 1 ≤ q))) (zero_ob _ _)
    (try simp only [Exit.inBlock, Exit.then])
    refine bodyPost_ret (rcell2 rfl _ _ w.heap.size _ _ _ _ rfl hf.1 Tryz.underlying31 rfl (by kernel_rfl)) rfl ?_
    exact ⟨_, rfl, rfl, hf.2⟩
  rw [c1] at HN
  clear c1 HE
  by_cases h8 : names.length ≤ 8
  · have HD8 := Lib.hid (show decide (names.length ≤ 8) = true from by simp [h8])
    have e8 : decide ((8 : Int) < (names.length : Int)) = false := by rw [decide_eq_false_iff_not]; omega
    rw [HD8.out]
    clear h8
    go_enter Tryz.func44, Tryz.ntmps44
    go_wp2_with fail
    rw [HWN.out]
    (with_reducible refine HN.out.mono ?_)
    rintro e w1 ⟨rfl, hb1⟩
    have HB2 := Lib.hid (HBN.out.trans (hb1.mono HBN.out.size))
    have hs1 := HB2.out.size
    have hPN1 := (hb1.block (w.heap.size + 1) (by omega)).trans HPN.out
    clear hb1
    obtain ⟨wN1, hwN1⟩ : ∃ x, x = w1 := ⟨_, rfl⟩
    have hPn := hPN1
    have HBX := Lib.hid (HB0.out.trans (HB2.out.mono HB0.out.size))
    have HRN := Lib.hid ((HB2.out.block w.heap.size (by omega)).trans HR0.out)
    clear hwN1 wN1
    have HG0 := Lib.hid (show GT w1 (w.heap.size + 1) (w.heap.size + 1) (BX.cells ⟨0, (names.length : Int), nilV, nilV, nilV, nilV, [], [], [], [], (List.range 0).map (fun i : Nat => (names.getD i default, (i : Int)))⟩) ⟨0, (names.length : Int), nilV, nilV, nilV, nilV, [], [], [], [], (List.range 0).map (fun i : Nat => (names.getD i default, (i : Int)))⟩ w1 from
      { k := Kept.refl _ _, box := hPn
        ob := { N := { own := none_row, len := rfl, lk := fun i l x h => by simp at h, dis := fun i j l l' b _ h => by simp at h, sep := fun i l b h => by simp at h }, S := none_row, O := none_row, I := none_row } })
    have hsN : w.heap.size + 1 ≤ wN.heap.size := by omega
    clear HN hPn hPN1
    go_wp2_with fail
    go_loopw [5] (fun i wr => ∃ (j : Nat) (iv : Value), j ≤ names.length ∧ i = .int .i64 j ∧ GT w1 (w.heap.size + 1) (w.heap.size + 1) (BX.cells ⟨0, (names.length : Int), nilV, nilV, nilV, iv, [], [], [], [], (List.range j).map (fun i : Nat => (names.getD i default, (i : Int)))⟩) ⟨0, (names.length : Int), nilV, nilV, nilV, iv, [], [], [], [], (List.range j).map (fun i : Nat => (names.getD i default, (i : Int)))⟩ wr)
      (fun i _ => names.length - (intOf i).toNat)
    case atStart => exact ⟨0, nilV, Nat.zero_le _, rfl, HG0.out⟩
    obtain ⟨j, iv, hj, rfl, hG⟩ := hrel
    have hI : wr.ownsRow (w.heap.size + 1) 90 2 iv j (((List.range j).map (fun i : Nat => (names.getD i default, (i : Int)))).flatMap encWi) := by
      have h := hG.ob.I
      rwa [show (List.map (fun i : Nat => (names.getD i default, (i : Int))) (List.range j)).length = j from by simp] at h
    obtain ⟨AI, cI, rfl, hI⟩ := owns_form hI
    have hsz : w.heap.size + 1 ≤ wr.heap.size := by have := hG.k.size; omega
    have z5 := hG.cell (f := 5) (u := .slice AI j cI) rfl
    have HI := Lib.hid hI
    have HG := Lib.hid hG
    clear hI
    by_cases hlt : j < names.length
    · obtain ⟨b, o, rfl, hc⟩ := (HA.out wr (gt_below hG HBX.out (by omega))).str hlt
      have k0 := hc j hlt
      obtain ⟨s, hse⟩ : ∃ s, s = names.getD j default := ⟨_, rfl⟩
      rw [← hse] at k0
      have HSE := Lib.hid hse
      clear hc hse hG
      have b0 : (0 : Int) ≤ (j : Int) := by omega
      have b1 : (j : Int) < (names.length : Int) := by omega
      go_wp2_with fail
      refine wp_region_ph (by kernel_rfl) [some 24, some 25, some 26, some 27, some 28, some 29, some 30, some 31, some 32, some 33, some 34, none] (fun q v => match q with | 0 => v = .pointer (some ⟨w.heap.size + 1, 5, none⟩) | 1 => v = .slice AI j cI | 2 => v = .slice (some ⟨b, o, none⟩) names.length c | 3 => v = .int .i64 (j : Int) | 4 => v = .pointer (some ⟨b, o + j, none⟩) | 5 => v = .string s | 6 => v = .int .i64 (j : Int) | 7 => v = .agg #[.string s, .int .i64 (j : Int)] | 8 => ∃ gz, v = .slice (some ⟨gz, 0, none⟩) 1 1 | 9 => True | 10 => v = .pointer (some ⟨w.heap.size + 1, 5, none⟩) | 11 => True | _ => True) (fun q v W => match q with | 0 => True | 1 => True | 2 => True | 3 => True | 4 => True | 5 => True | 6 => True | 7 => True | 8 => ∀ g, v = .slice (some ⟨g, 0, none⟩) 1 1 → 0 ≤ g ∧ W.heap[g]? = some (.cells #[.string s, .int .i64 (j : Int)] 90) | 9 => True | 10 => True | 11 => True | _ => True) (fun W W' => Below W.heap.size W W') 9 11 (fun kk W => GT w1 (w.heap.size + 1) (w.heap.size + 1) (BX.cells ⟨0, (names.length : Int), nilV, nilV, nilV, (.slice AI j cI), [], [], [], [], (List.range j).map (fun i : Nat => (names.getD i default, (i : Int)))⟩) ⟨0, (names.length : Int), nilV, nilV, nilV, (.slice AI j cI), [], [], [], [], (List.range j).map (fun i : Nat => (names.getD i default, (i : Int)))⟩ W) (fun v W => (∃ A2 c2, v = .slice A2 (j + 1) c2) ∧ GT w1 (w.heap.size + 1) (w.heap.size + 1) (BX.cells ⟨0, (names.length : Int), nilV, nilV, nilV, (.slice AI j cI), [], [], [], [], (List.range j).map (fun i : Nat => (names.getD i default, (i : Int)))⟩) ⟨0, (names.length : Int), nilV, nilV, nilV, v, [], [], [], [], (List.range (j + 1)).map (fun i : Nat => (names.getD i default, (i : Int)))⟩ W) (fun v W => (∃ A2 c2, v = .slice A2 (j + 1) c2) ∧ GT w1 (w.heap.size + 1) (w.heap.size + 1) (BX.cells ⟨0, (names.length : Int), nilV, nilV, nilV, v, [], [], [], [], (List.range (j + 1)).map (fun i : Nat => (names.getD i default, (i : Int)))⟩) ⟨0, (names.length : Int), nilV, nilV, nilV, v, [], [], [], [], (List.range (j + 1)).map (fun i : Nat => (names.getD i default, (i : Int)))⟩ W) (by kernel_rfl) (by kernel_rfl) (by kernel_rfl) (by decide) (by decide) ?m1o ?r1s ?h10 ?s1t ?f1i
      case m1o => exact fun k k' W h hd => hd
      case r1s =>
        intro q v W W' ht h
        match q, h with
        | 0, h | 1, h | 2, h | 3, h | 4, h | 5, h | 6, h | 7, h | 9, h | 10, h | 11, h => exact h
        | 8, h => exact fun g e => ⟨(h g e).1, (ht.block g (Array.getElem?_eq_some_iff.1 (h g e).2).1).trans (h g e).2⟩
        | q + 12, _ => trivial
      case h10 => exact HG.out.drew
      case s1t =>
        as_aux_lemma =>
          intro L act W q oo hJ hL hA hS ho hd K3 hK3
          match q, ho with
          | 0, ho =>
            cases ho
            have a4 : act.tmps[4]? = some _ := hJ.out 4 (by decide)
            clear hJ hd
            go_simp
            exact hK3 _ _ (.same (by decide) (by decide) rfl rfl (fun _ => trivial))
          | 1, ho =>
            cases ho
            simp [Region.binds] at hd
            have v0 := hJ.val (by simp [hd] : L 0 = true) rfl fun _ h => h
            have hn : L 9 = false := hA (by kernel_rfl)
            have hD := hJ.d hn
            have z5 := hD.cell (f := 5) (u := .slice AI j cI) rfl
            have HD := Lib.hid hD
            clear hD hJ hd
            go_simp
            exact hK3 _ _ (.same (by decide) (by decide) rfl rfl (fun _ => trivial))
          | 2, ho =>
            cases ho
            have a0 : act.tmps[0]? = some _ := hJ.out 0 (by decide)
            clear hJ hd
            go_simp
            exact hK3 _ _ (.same (by decide) (by decide) rfl rfl (fun _ => trivial))
          | 3, ho =>
            cases ho
            have a5 : act.tmps[5]? = some _ := hJ.out 5 (by decide)
            clear hJ hd
            go_simp
            exact hK3 _ _ (.same (by decide) (by decide) rfl rfl (fun _ => trivial))
          | 4, ho =>
            cases ho
            simp [Region.binds] at hd
            have v2 := hJ.val (by simp [hd] : L 2 = true) rfl fun _ h => h
            have v3 := hJ.val (by simp [hd] : L 3 = true) rfl fun _ h => h
            clear hJ hd
            go_simp
            exact hK3 _ _ (.same (by decide) (by decide) rfl rfl (fun _ => trivial))
          | 5, ho =>
            cases ho
            simp [Region.binds] at hd
            have v4 := hJ.val (by simp [hd] : L 4 = true) rfl fun _ h => h
            have hn : L 9 = false := hA (by kernel_rfl)
            have hD := hJ.d hn
            obtain ⟨b', o', e', hc'⟩ := (HA.out W (gt_below hD HBX.out (by omega))).str hlt
            cases e'
            have k0W := hc' j hlt
            rw [← HSE.out] at k0W
            clear hc'
            have HD := Lib.hid hD
            clear hD hJ hd
            go_simp
            exact hK3 _ _ (.same (by decide) (by decide) rfl rfl (fun _ => trivial))
          | 6, ho =>
            cases ho
            have a5 : act.tmps[5]? = some _ := hJ.out 5 (by decide)
            clear hJ hd
            go_simp
            exact hK3 _ _ (.same (by decide) (by decide) rfl rfl (fun _ => trivial))
          | 7, ho =>
            cases ho
            simp [Region.binds] at hd
            have v5 := hJ.val (by simp [hd] : L 5 = true) rfl fun _ h => h
            have v6 := hJ.val (by simp [hd] : L 6 = true) rfl fun _ h => h
            clear hJ hd
            go_simp
            exact hK3 _ _ (.same (by decide) (by decide) rfl rfl (fun _ => trivial))
          | 8, ho =>
            cases ho
            simp [Region.binds] at hd
            have v7 := hJ.val (by simp [hd] : L 7 = true) rfl fun _ h => h
            have hn : L 9 = false := hA (by kernel_rfl)
            have hD := hJ.d hn
            have HD := Lib.hid hD
            clear hJ hd hD
            go_simp
            exact hK3 _ _ (.lay (by decide) (by decide) ⟨_, rfl⟩ hn ((Below.refl _ _).alloc (Nat.le_refl _) _) (fun g e => by injection e with e1; injection e1 with e2; injection e2 with e3; subst e3; exact ⟨Nat.zero_le _, heap_alloc_new _ _⟩) (HD.out.lay ((Below.refl _ _).alloc (Nat.le_refl _) _)))
          | 9, ho =>
            cases ho
            simp [Region.binds] at hd
            have v1 := hJ.val (by simp [hd] : L 1 = true) rfl fun _ h => h
            have l8 : L 8 = true := by simp [hd]
            obtain ⟨u8, v8, ⟨gz, rfl⟩, hr8⟩ := hJ.has 8 32 l8 rfl
            have hn : L 9 = false := hA (by kernel_rfl)
            have hD := hJ.d hn
            obtain ⟨hg1, hg2⟩ := hr8 hn gz rfl
            clear hJ hd
            refine step_appM el_wireG rfl (.tmp 25) (.tmp 32) rfl (w.heap.size + 1) ((.slice AI j cI)) j (((List.range j).map (fun i : Nat => (names.getD i default, (i : Int)))).flatMap encWi) (by simp [Act.eval, *]) (clo_I hD) ⟨gz, 0, none⟩ 1 1 [.string s, .int .i64 (j : Int)] (by simp [Act.eval, *]) (by decide) rfl (fun j' u' hj' => by rw [show (⟨gz, 0, none⟩ : Addr).add j' = ⟨gz, j', none⟩ from by simp [Addr.add, eq_comm], cell_of_row W gz _ _ _ _ hg2]; simpa using hj') (wi_one _ _) (by omega) (by have := hD.k.size; omega) ?_
            intro v' W' ho hk hm
            exact hK3 _ _ (.app rfl (by decide) trivial (⟨by obtain ⟨A2, c2, e, _⟩ := owns_form ho; exact ⟨A2, c2, e⟩, clo_add hD (by rw [← HSE.out]; exact ho) hk⟩))
          | 10, ho =>
            cases ho
            have a4 : act.tmps[4]? = some _ := hJ.out 4 (by decide)
            clear hJ hd
            go_simp
            exact hK3 _ _ (.same (by decide) (by decide) rfl rfl (fun _ => trivial))
          | 11, ho =>
            cases ho
            simp [Region.binds] at hd
            have v10 := hJ.val (by simp [hd] : L 10 = true) rfl fun _ h => h
            have l9 : L 9 = true := by simp [hd]
            obtain ⟨u, hu, hE⟩ := hJ.e l9 hL
            have v9 := hu 33 rfl
            clear hJ hd
            obtain ⟨⟨A2, c2, rfl⟩, hE⟩ := hE
            have z5 := hE.cell (f := 5) (u := .slice AI j cI) rfl
            have f5 := frozen_of_row W (w.heap.size + 1) 5 _ _ hE.box
            have HFF := Lib.hid ((⟨⟨A2, c2, rfl⟩, hE.put 5 _⟩ : (∃ A2 c2, _ = Value.slice A2 (j + 1) c2) ∧ GT w1 (w.heap.size + 1) (w.heap.size + 1) (BX.cells ⟨0, (names.length : Int), nilV, nilV, nilV, (.slice A2 (j + 1) c2), [], [], [], [], (List.range (j + 1)).map (fun i : Nat => (names.getD i default, (i : Int)))⟩) ⟨0, (names.length : Int), nilV, nilV, nilV, (.slice A2 (j + 1) c2), [], [], [], [], (List.range (j + 1)).map (fun i : Nat => (names.getD i default, (i : Int)))⟩ _))
            clear hE
            go_simp
            exact hK3 undef _ (.store rfl (by decide) trivial _ hu HFF.out)
          | q + 12, ho => simp at ho
      intro V W hF hV
      obtain ⟨v, hv, hF⟩ := hF
      have v9 : V 9 = v := hv 33 rfl
      have v0 : V 0 = _ := hV 0 24 rfl
      have v1 : V 1 = _ := hV 1 25 rfl
      have v2 : V 2 = _ := hV 2 26 rfl
      have v3 : V 3 = _ := hV 3 27 rfl
      have v4 : V 4 = _ := hV 4 28 rfl
      have v5 : V 5 = _ := hV 5 29 rfl
      have v6 : V 6 = _ := hV 6 30 rfl
      have v7 : V 7 = _ := hV 7 31 rfl
      obtain ⟨gz8, v8⟩ : ∃ gz, V 8 = .slice (some ⟨gz, 0, none⟩) 1 1 := hV 8 32 rfl
      have v10 : V 10 = _ := hV 10 34 rfl
      clear hV hv
      simp only [layV, List.setIfInBounds_toArray, List.set_cons_zero, List.set_cons_succ, v0, v1, v2, v3, v4, v5, v6, v7, v8, v10, v9]
      clear v0 v1 v2 v3 v4 v5 v6 v7 v8 v10 v9
      obtain ⟨⟨A2, c2, rfl⟩, hG⟩ := hF
      have HG2 := Lib.hid hG
      clear hG
      go_wp2_with fail
      go_roundw
      case rel => exact ⟨j + 1, _, by omega, by go_num, HG2.out⟩
      case measure => simp [intOf]; omega
    obtain rfl : j = names.length := by omega
    clear hG z5
    have x0 := HG.out.cell (f := 0) (u := .int .i64 0) rfl
    have x1 := HG.out.cell (f := 1) (u := .slice none 0 0) rfl
    have x2 := HG.out.cell (f := 2) (u := .slice none 0 0) rfl
    have x3 := HG.out.cell (f := 3) (u := .int .i64 (names.length : Int)) rfl
    have x4 := HG.out.cell (f := 4) (u := .slice none 0 0) rfl
    have x5 := HG.out.cell (f := 5) (u := .slice AI names.length cI) rfl
    have hRW := (HG.out.k.block w.heap.size (by have := (Array.getElem?_eq_some_iff.1 HRN.out).1; exact this) (by omega)).trans HRN.out
    obtain ⟨z0, z1, z2, z3, z4, z5, f0, f1, f2, f3, f4, f5⟩ := row6f hRW
    clear hRW
    go_wp2_with fail
    have hf := fin6 HBX.out HRN.out (by omega) HG.out
    (try simp only [Exit.inBlock, Exit.then])
    refine bodyPost_ret (rcell2 rfl _ _ w.heap.size _ _ _ _ rfl hf.1 Tryz.underlying31 rfl (by kernel_rfl)) rfl ?_
    exact ⟨_, rfl, rfl, hf.2⟩
  have HD8 := Lib.hid (show decide (names.length ≤ 8) = false from by simp [h8])
  have e8 : decide ((8 : Int) < (names.length : Int)) = true := by rw [decide_eq_true_iff]; omega
  rw [HD8.out]
  clear h8
  go_enter Tryz.func44, Tryz.ntmps44
  go_wp2_with fail
  rw [HWN.out]
  (with_reducible refine HN.out.mono ?_)
  rintro e w1 ⟨rfl, hb1⟩
  have HB2 := Lib.hid (HBN.out.trans (hb1.mono HBN.out.size))
  clear hb1
  have hRW := (HB2.out.block w.heap.size (by omega)).trans HR0.out
  obtain ⟨z0, z1, z2, z3, z4, z5, f0, f1, f2, f3, f4, f5⟩ := row6f hRW
  clear hRW
  go_wp2_with fail
  have hf := fin6_of (X := zeroX) HB0.out HR0.out (by have := (Kept.of_below HB2.out (fun q => w.heap.size + 1 ≤ q)).size; omega) ((Kept.of_below HB2.out (fun q => w.heap.size + 1 ≤ q))) (zero_ob _ _)
  (try simp only [Exit.inBlock, Exit.then])
  refine bodyPost_ret (rcell2 rfl _ _ w.heap.size _ _ _ _ rfl hf.1 Tryz.underlying31 rfl (by kernel_rfl)) rfl ?_
  exact ⟨_, rfl, rfl, hf.2⟩

end Go.Proofs.YtijkdpdmclkmlaaGreatDoor
