/- Elements: identities and permutations of both packages, with their checks: walked. -/
import Derived.Test.YtijkdpdmclkmlaaGreatDoorProg
import Derived.Test.YtijkdpdmclkmlaaGreatDoorJ0
import Derived.Test.YtijkdpdmclkmlaaGreatDoorJ25
import Derived.Test.YtijkdpdmclkmlaaGreatDoorJ26
import Derived.Test.YtijkdpdmclkmlaaGreatDoorJ30
import Derived.Test.YtijkdpdmclkmlaaGreatDoorJ6
import Derived.Test.YtijkdpdmclkmlaaGreatDoorJ7
import Derived.BigQuiet
set_option linter.unusedSimpArgs false
set_option linter.unusedVariables false
set_option maxRecDepth 100000
set_option maxHeartbeats 16000000
namespace Go.Proofs.YtijkdpdmclkmlaaGreatDoor
open Go.RowKit
theorem l3Names_any (A : Option Addr) (c : Nat) (l : List ByteArray) (w : World) (hl : l.length ≤ 1000) (hz : ∀ s ∈ l, s.size ≤ 1000) (hA : Cells w A (strs l)) :
  Calls Tryz.prog 94 #[.slice A l.length c] w fun e w' => e = .returned (.bool (namesB l)) ∧ Below w.heap.size w w' := by
 have HN := Lib.hid (l2Names_any A c l w hl hz hA)
 clear hA hz
 go_enter Tryz.func94, Tryz.ntmps94
 go_wp2_with fail
 (with_reducible refine HN.out.mono ?_)
 rintro e w1 ⟨rfl, hb1⟩
 have HB := Lib.hid hb1
 clear hb1
 go_wp2_with fail
 go_ret
 exact ⟨rfl, HB.out⟩

theorem l2Each_any (n : Int) (A : Option Addr) (c : Nat) (l : List Int) (w : World) (hn : l.length ≤ 1000000) (h0 : 0 ≤ n) (h1 : n ≤ 1000000) (hA : Cells w A (ints l)) :
  Calls Tryz.prog 101 #[.slice A l.length c, .int .i64 n] w fun e w' => e = .returned (.bool (eachB l n)) ∧ Below w.heap.size w w' := by
 have HPT := Lib.hid (show eachB l n = (allR n.toNat (fun i => l.contains (i : Int)) && ((l.length : Int) == n)) from rfl)
 obtain ⟨m, rfl⟩ := Int.eq_ofNat_of_zero_le h0
 have HM := Lib.hid (show (m : Int).toNat = m from Int.toNat_natCast m)
 clear h0
 go_enter Tryz.func101, Tryz.ntmps101
 go_wp2_with fail
 go_loop [5] (fun i => ∃ k : Nat, k ≤ m ∧ i = .int .i64 k ∧ ∀ j, j < k → (fun i : Nat => l.contains (i : Int)) j = true) (fun i => m - (intOf i).toNat)
 case atStart => exact ⟨0, Nat.zero_le _, rfl, fun j hj => by omega⟩
 obtain ⟨k, hk, rfl, hall⟩ := hrel
 have HALL := Lib.hid hall
 clear hall
 by_cases hlt : k < m
 ·have HC := Lib.hid (l1Has_any A c l (k : Int) w (by omega) hA)
  have HF := Lib.hid (show hasI l (k : Int) = false → eachB l (m : Int) = false from fun h => by rw [HPT.out, HM.out, allR_false (p := fun i : Nat => l.contains (i : Int)) hlt h]; rfl)
  have HNX := Lib.hid (show hasI l (k : Int) = true → ∀ j, j < k + 1 → (fun i : Nat => l.contains (i : Int)) j = true from fun h => all_next HALL.out h)
  cases hn : hasI l (k : Int)
  ·have HFF := Lib.hid (HF.out hn)
   rw [hn] at HC
   clear hn
   go_wp2_with fail
   (with_reducible refine HC.out.mono ?_)
   rintro e w' ⟨rfl, rfl⟩
   go_wp2_with fail
   go_ret
   exact ⟨by rw [HFF.out]; rfl, Below.refl _ _⟩
  have HNN := Lib.hid (HNX.out hn)
  rw [hn] at HC
  clear hn
  go_wp2_with fail
  (with_reducible refine HC.out.mono ?_)
  rintro e w' ⟨rfl, rfl⟩
  go_wp2_with fail
  go_round
  case rel => exact ⟨k + 1, by omega, by go_num, HNN.out⟩
  case measure => simp [intOf]; omega
 obtain rfl : k = m := by omega
 have HE := Lib.hid (show eachB l (k : Int) = ((l.length : Int) == (k : Int)) from by rw [HPT.out, HM.out, allR_true HALL.out, Bool.true_and])
 cases hq : ((l.length : Int) == (k : Int))
 all_goals
  rw [hq] at HE
  go_wp2_with fail
  go_ret
  exact ⟨by rw [HE.out]; rfl, Below.refl _ _⟩

theorem implIdentityOf_any (n : Int) (A : Option Addr) (c : Nat) (names : List ByteArray) (w : World) (hl : names.length ≤ 1000) (hz : ∀ s ∈ names, s.size ≤ 1000) (hA : Cells w A (strs names)) :
  Calls Tryz.prog 12 #[.int .i64 n, .slice A names.length c] w fun e w' => ∃ X : BX, e = .returned (.tuple #[.agg X.cells, .bool (inB n 0 4 && namesB names)]) ∧ X.g = (if inB n 0 4 && namesB names then idG n.toNat names else zeroG) ∧ RG w w' X := by
 have HA := Lib.hid (show ∀ W, Below w.heap.size w W → Cells W A (strs names) from fun W hb => hA.below hb)
 obtain ⟨w0, hw0, hb0, hs0, hR0⟩ := laid1 w (.cells ZB 31)
 have HB0 := Lib.hid hb0
 have HR0 := Lib.hid hR0
 have HN := Lib.hid (areNames_any A c names w0 hl hz (HA.out w0 hb0))
 have HW0 := Lib.hid (show w.alloc (.cells #[.int .i64 0, .slice none 0 0, .slice none 0 0, .int .i64 0, .slice none 0 0, .slice none 0 0] 31) = w0 from hw0.symm)
 clear hb0 hR0 hw0
 have HB1 := Lib.hid (Below.refl w0.heap.size w0)
 clear hA hz
 cases c0 : inB n 0 4
 ·have HIN := Lib.hid (show ∀ w, Calls Tryz.prog 90 #[.int .i64 n, .int .i64 0, .int .i64 4] w (fun e w' => e = .returned (.bool false) ∧ w = w') from fun w => by have h := within_any n 0 4 w; rw [c0] at h; exact h)
  go_enter Tryz.func12, Tryz.ntmps12
  go_wp2_with fail
  rw [HW0.out]
  (with_reducible refine (HIN.out _).mono ?_)
  rintro e w' ⟨rfl, rfl⟩
  have hRW := (HB1.out.block w.heap.size (by omega)).trans HR0.out
  obtain ⟨z0, z1, z2, z3, z4, z5, f0, f1, f2, f3, f4, f5⟩ := row6f hRW
  clear hRW
  go_wp2_with fail
  have hf := fin6_of (X := zeroX) HB0.out HR0.out (by have := (Kept.of_below HB1.out (fun q => w.heap.size + 1 ≤ q)).size; omega) ((Kept.of_below HB1.out (fun q => w.heap.size + 1 ≤ q))) (zero_ob _ _)
  (try simp only [Exit.inBlock, Exit.then])
  refine bodyPost_ret (rcell2 rfl _ _ w.heap.size _ _ _ _ rfl hf.1 Tryz.underlying31 rfl (by kernel_rfl)) rfl ?_
  exact ⟨_, rfl, rfl, hf.2⟩
 obtain ⟨hn0, hn4⟩ := inB_true c0
 have HIN := Lib.hid (show ∀ w, Calls Tryz.prog 90 #[.int .i64 n, .int .i64 0, .int .i64 4] w (fun e w' => e = .returned (.bool true) ∧ w = w') from fun w => by have h := within_any n 0 4 w; rw [c0] at h; exact h)
 obtain ⟨m, rfl⟩ := Int.eq_ofNat_of_zero_le hn0
 clear c0
 cases c1 : namesB names
 ·rw [c1] at HN
  clear c1
  go_enter Tryz.func12, Tryz.ntmps12
  go_wp2_with fail
  rw [HW0.out]
  (with_reducible refine (HIN.out _).mono ?_)
  rintro e w' ⟨rfl, rfl⟩
  go_wp2_with fail
  (with_reducible refine HN.out.mono ?_)
  rintro e w1 ⟨rfl, hb1⟩
  have HB2 := Lib.hid hb1
  clear hb1
  have hRW := (HB2.out.block w.heap.size (by omega)).trans HR0.out
  obtain ⟨z0, z1, z2, z3, z4, z5, f0, f1, f2, f3, f4, f5⟩ := row6f hRW
  clear hRW
  go_wp2_with fail
  have hf := fin6_of (X := zeroX) HB0.out HR0.out (by have := (Kept.of_below HB2.out (fun q => w.heap.size + 1 ≤ q)).size; omega) ((Kept.of_below HB2.out (fun q => w.heap.size + 1 ≤ q))) (zero_ob _ _)
  (try simp only [Exit.inBlock, Exit.then])
  refine bodyPost_ret (rcell2 rfl _ _ w.heap.size _ _ _ _ rfl hf.1 Tryz.underlying31 rfl (by kernel_rfl)) rfl ?_
  exact ⟨_, rfl, rfl, hf.2⟩
 rw [c1] at HN
 clear c1
 go_enter Tryz.func12, Tryz.ntmps12
 go_wp2_with fail
 rw [HW0.out]
 (with_reducible refine (HIN.out _).mono ?_)
 rintro e w' ⟨rfl, rfl⟩
 go_wp2_with fail
 (with_reducible refine HN.out.mono ?_)
 rintro e w1 ⟨rfl, hb1⟩
 have HB2 := Lib.hid hb1
 have HC := Lib.hid (identity_any m A c names w1 (by omega) hl (HA.out w1 (HB0.out.trans (hb1.mono HB0.out.size))))
 clear hb1
 go_wp2_with fail
 (with_reducible refine HC.out.mono ?_)
 rintro e w9 ⟨X, rfl, hXg, hr⟩
 obtain ⟨xr, xe, xnv, xsv, xov, xiv, xns, xls, xss, xos, xis⟩ := X
 obtain ⟨YN, dN, YS, dS, YO, dO, YI, dI, e1, e2, e3, e4⟩ := hr.ob.form
 dsimp only at e1 e2 e3 e4
 subst e1 e2 e3 e4
 have HXG := Lib.hid hXg
 have HB9 := Lib.hid (HB2.out.trans (hr.bel.mono HB2.out.size))
 have hsw := HB2.out.size
 have HR := Lib.hid hr
 clear hXg hr HC
 simp only [BX.cells]
 have hRW := (HB9.out.block w.heap.size (by omega)).trans HR0.out
 obtain ⟨z0, z1, z2, z3, z4, z5, f0, f1, f2, f3, f4, f5⟩ := row6f hRW
 clear hRW
 go_wp2_with fail
 have hf := fin6_of (X := ⟨xr, xe, .slice YN xns.length dN, .slice YS xss.length dS, .slice YO xos.length dO, .slice YI xis.length dI, xns, xls, xss, xos, xis⟩) HB0.out HR0.out (by have := (Kept.of_below HB9.out (fun q => w.heap.size + 1 ≤ q)).size; omega) ((Kept.of_below HB9.out (fun q => w.heap.size + 1 ≤ q))) (HR.out.ob.mono (by omega))
 (try simp only [Exit.inBlock, Exit.then])
 refine bodyPost_ret (rcell2 rfl _ _ w.heap.size _ _ _ _ rfl hf.1 Tryz.underlying31 rfl (by kernel_rfl)) rfl ?_
 exact ⟨_, rfl, (by first | exact HXG.out | (rw [if_pos rfl]; exact HXG.out)), hf.2⟩
theorem specIdentityOf_any (n : Int) (A : Option Addr) (c : Nat) (names : List ByteArray) (w : World) (hl : names.length ≤ 1000) (hz : ∀ s ∈ names, s.size ≤ 1000) (hA : Cells w A (strs names)) :
  Calls Tryz.prog 13 #[.int .i64 n, .slice A names.length c] w fun e w' => ∃ X : BX, e = .returned (.tuple #[.agg X.cells, .bool (inB n 0 4 && namesB names)]) ∧ X.g = (if inB n 0 4 && namesB names then idG n.toNat names else zeroG) ∧ RG w w' X := by
 have HA := Lib.hid (show ∀ W, Below w.heap.size w W → Cells W A (strs names) from fun W hb => hA.below hb)
 obtain ⟨w0, hw0, hb0, hs0, hR0⟩ := laid1 w (.cells ZB 31)
 have HB0 := Lib.hid hb0
 have HR0 := Lib.hid hR0
 have HN := Lib.hid (l3Names_any A c names w0 hl hz (HA.out w0 hb0))
 have HW0 := Lib.hid (show w.alloc (.cells #[.int .i64 0, .slice none 0 0, .slice none 0 0, .int .i64 0, .slice none 0 0, .slice none 0 0] 31) = w0 from hw0.symm)
 clear hb0 hR0 hw0
 have HB1 := Lib.hid (Below.refl w0.heap.size w0)
 clear hA hz
 cases c0 : inB n 0 4
 ·have HIN := Lib.hid (show ∀ w, Calls Tryz.prog 93 #[.int .i64 n, .int .i64 0, .int .i64 4] w (fun e w' => e = .returned (.bool false) ∧ w = w') from fun w => by have h := l1In_any n 0 4 w; rw [c0] at h; exact h)
  go_enter Tryz.func13, Tryz.ntmps13
  go_wp2_with fail
  rw [HW0.out]
  (with_reducible refine (HIN.out _).mono ?_)
  rintro e w' ⟨rfl, rfl⟩
  have hRW := (HB1.out.block w.heap.size (by omega)).trans HR0.out
  obtain ⟨z0, z1, z2, z3, z4, z5, f0, f1, f2, f3, f4, f5⟩ := row6f hRW
  clear hRW
  go_wp2_with fail
  have hf := fin6_of (X := zeroX) HB0.out HR0.out (by have := (Kept.of_below HB1.out (fun q => w.heap.size + 1 ≤ q)).size; omega) ((Kept.of_below HB1.out (fun q => w.heap.size + 1 ≤ q))) (zero_ob _ _)
  (try simp only [Exit.inBlock, Exit.then])
  refine bodyPost_ret (rcell2 rfl _ _ w.heap.size _ _ _ _ rfl hf.1 Tryz.underlying31 rfl (by kernel_rfl)) rfl ?_
  exact ⟨_, rfl, rfl, hf.2⟩
 obtain ⟨hn0, hn4⟩ := inB_true c0
 have HIN := Lib.hid (show ∀ w, Calls Tryz.prog 93 #[.int .i64 n, .int .i64 0, .int .i64 4] w (fun e w' => e = .returned (.bool true) ∧ w = w') from fun w => by have h := l1In_any n 0 4 w; rw [c0] at h; exact h)
 obtain ⟨m, rfl⟩ := Int.eq_ofNat_of_zero_le hn0
 clear c0
 cases c1 : namesB names
 ·rw [c1] at HN
  clear c1
  go_enter Tryz.func13, Tryz.ntmps13
  go_wp2_with fail
  rw [HW0.out]
  (with_reducible refine (HIN.out _).mono ?_)
  rintro e w' ⟨rfl, rfl⟩
  go_wp2_with fail
  (with_reducible refine HN.out.mono ?_)
  rintro e w1 ⟨rfl, hb1⟩
  have HB2 := Lib.hid hb1
  clear hb1
  have hRW := (HB2.out.block w.heap.size (by omega)).trans HR0.out
  obtain ⟨z0, z1, z2, z3, z4, z5, f0, f1, f2, f3, f4, f5⟩ := row6f hRW
  clear hRW
  go_wp2_with fail
  have hf := fin6_of (X := zeroX) HB0.out HR0.out (by have := (Kept.of_below HB2.out (fun q => w.heap.size + 1 ≤ q)).size; omega) ((Kept.of_below HB2.out (fun q => w.heap.size + 1 ≤ q))) (zero_ob _ _)
  (try simp only [Exit.inBlock, Exit.then])
  refine bodyPost_ret (rcell2 rfl _ _ w.heap.size _ _ _ _ rfl hf.1 Tryz.underlying31 rfl (by kernel_rfl)) rfl ?_
  exact ⟨_, rfl, rfl, hf.2⟩
 rw [c1] at HN
 clear c1
 go_enter Tryz.func13, Tryz.ntmps13
 go_wp2_with fail
 rw [HW0.out]
 (with_reducible refine (HIN.out _).mono ?_)
 rintro e w' ⟨rfl, rfl⟩
 go_wp2_with fail
 (with_reducible refine HN.out.mono ?_)
 rintro e w1 ⟨rfl, hb1⟩
 have HB2 := Lib.hid hb1
 have HC := Lib.hid (l3Identity_any m A c names w1 (by omega) hl (HA.out w1 (HB0.out.trans (hb1.mono HB0.out.size))))
 clear hb1
 go_wp2_with fail
 (with_reducible refine HC.out.mono ?_)
 rintro e w9 ⟨X, rfl, hXg, hr⟩
 obtain ⟨xr, xe, xnv, xsv, xov, xiv, xns, xls, xss, xos, xis⟩ := X
 obtain ⟨YN, dN, YS, dS, YO, dO, YI, dI, e1, e2, e3, e4⟩ := hr.ob.form
 dsimp only at e1 e2 e3 e4
 subst e1 e2 e3 e4
 have HXG := Lib.hid hXg
 have HB9 := Lib.hid (HB2.out.trans (hr.bel.mono HB2.out.size))
 have hsw := HB2.out.size
 have HR := Lib.hid hr
 clear hXg hr HC
 simp only [BX.cells]
 have hRW := (HB9.out.block w.heap.size (by omega)).trans HR0.out
 obtain ⟨z0, z1, z2, z3, z4, z5, f0, f1, f2, f3, f4, f5⟩ := row6f hRW
 clear hRW
 go_wp2_with fail
 have hf := fin6_of (X := ⟨xr, xe, .slice YN xns.length dN, .slice YS xss.length dS, .slice YO xos.length dO, .slice YI xis.length dI, xns, xls, xss, xos, xis⟩) HB0.out HR0.out (by have := (Kept.of_below HB9.out (fun q => w.heap.size + 1 ≤ q)).size; omega) ((Kept.of_below HB9.out (fun q => w.heap.size + 1 ≤ q))) (HR.out.ob.mono (by omega))
 (try simp only [Exit.inBlock, Exit.then])
 refine bodyPost_ret (rcell2 rfl _ _ w.heap.size _ _ _ _ rfl hf.1 Tryz.underlying31 rfl (by kernel_rfl)) rfl ?_
 exact ⟨_, rfl, (by first | exact HXG.out | (rw [if_pos rfl]; exact HXG.out)), hf.2⟩
theorem implPermutationOf_any (t : List Int) (A : Option Addr) (c : Nat) (w : World) (hn : t.length ≤ 1000) (hbd : ∀ x ∈ t, -1000000000 ≤ x ∧ x ≤ 1000000000) (hA : Cells w A (ints t)) :
  Calls Tryz.prog 16 #[.slice A t.length c] w fun e w' => ∃ X : BX, e = .returned (.tuple #[.agg X.cells, .bool (decide (t.length ≤ 4) && orderB t.length t)]) ∧ X.g = (if decide (t.length ≤ 4) && orderB t.length t then permG t else zeroG) ∧ RG w w' X := by
 have HA := Lib.hid (show ∀ W, Below w.heap.size w W → Cells W A (ints t) from fun W hb => hA.below hb)
 obtain ⟨w0, hw0, hb0, hs0, hR0⟩ := laid1 w (.cells ZB 31)
 have HB0 := Lib.hid hb0
 have HR0 := Lib.hid hR0
 have HN := Lib.hid (isOrder_any (t.length : Int) A c t w0 (by omega) (HA.out w0 hb0))
 have HW0 := Lib.hid (show w.alloc (.cells #[.int .i64 0, .slice none 0 0, .slice none 0 0, .int .i64 0, .slice none 0 0, .slice none 0 0] 31) = w0 from hw0.symm)
 clear hb0 hR0 hw0
 have HB1 := Lib.hid (Below.refl w0.heap.size w0)
 have HBD := Lib.hid hbd
 clear hA hbd
 by_cases h4 : t.length ≤ 4
 ·have HD4 := Lib.hid (show decide (t.length ≤ 4) = true from by simp [h4])
  have e4 : decide ((4 : Int) < (t.length : Int)) = false := by rw [decide_eq_false_iff_not]; omega
  rw [HD4.out]
  clear h4
  cases c1 : orderB t.length t
  ·rw [c1] at HN
   clear c1
   go_enter Tryz.func16, Tryz.ntmps16
   go_wp2_with fail
   rw [HW0.out]
   (with_reducible refine HN.out.mono ?_)
   rintro e w1 ⟨rfl, hb1⟩
   have HB2 := Lib.hid hb1
   clear hb1
   have hRW := (HB2.out.block w.heap.size (by omega)).trans HR0.out
   obtain ⟨z0, z1, z2, z3, z4, z5, f0, f1, f2, f3, f4, f5⟩ := row6f hRW
   clear hRW
   go_wp2_with fail
   have hf := fin6_of (X := zeroX) HB0.out HR0.out (by have := (Kept.of_below HB2.out (fun q => w.heap.size + 1 ≤ q)).size; omega) ((Kept.of_below HB2.out (fun q => w.heap.size + 1 ≤ q))) (zero_ob _ _)
   (try simp only [Exit.inBlock, Exit.then])
   refine bodyPost_ret (rcell2 rfl _ _ w.heap.size _ _ _ _ rfl hf.1 Tryz.underlying31 rfl (by kernel_rfl)) rfl ?_
   exact ⟨_, rfl, rfl, hf.2⟩
  rw [c1] at HN
  clear c1
  go_enter Tryz.func16, Tryz.ntmps16
  go_wp2_with fail
  rw [HW0.out]
  (with_reducible refine HN.out.mono ?_)
  rintro e w1 ⟨rfl, hb1⟩
  have HB2 := Lib.hid hb1
  have HC := Lib.hid (permutation_any t A c w1 hn HBD.out (HA.out w1 (HB0.out.trans (hb1.mono HB0.out.size))))
  clear hb1
  go_wp2_with fail
  (with_reducible refine HC.out.mono ?_)
  rintro e w9 ⟨X, rfl, hXg, hr⟩
  obtain ⟨xr, xe, xnv, xsv, xov, xiv, xns, xls, xss, xos, xis⟩ := X
  obtain ⟨YN, dN, YS, dS, YO, dO, YI, dI, e1, e2, e3, e4⟩ := hr.ob.form
  dsimp only at e1 e2 e3 e4
  subst e1 e2 e3 e4
  have HXG := Lib.hid hXg
  have HB9 := Lib.hid (HB2.out.trans (hr.bel.mono HB2.out.size))
  have hsw := HB2.out.size
  have HR := Lib.hid hr
  clear hXg hr HC
  simp only [BX.cells]
  have hRW := (HB9.out.block w.heap.size (by omega)).trans HR0.out
  obtain ⟨z0, z1, z2, z3, z4, z5, f0, f1, f2, f3, f4, f5⟩ := row6f hRW
  clear hRW
  go_wp2_with fail
  have hf := fin6_of (X := ⟨xr, xe, .slice YN xns.length dN, .slice YS xss.length dS, .slice YO xos.length dO, .slice YI xis.length dI, xns, xls, xss, xos, xis⟩) HB0.out HR0.out (by have := (Kept.of_below HB9.out (fun q => w.heap.size + 1 ≤ q)).size; omega) ((Kept.of_below HB9.out (fun q => w.heap.size + 1 ≤ q))) (HR.out.ob.mono (by omega))
  (try simp only [Exit.inBlock, Exit.then])
  refine bodyPost_ret (rcell2 rfl _ _ w.heap.size _ _ _ _ rfl hf.1 Tryz.underlying31 rfl (by kernel_rfl)) rfl ?_
  exact ⟨_, rfl, (by first | exact HXG.out | (rw [if_pos rfl]; exact HXG.out)), hf.2⟩
 have HD4 := Lib.hid (show decide (t.length ≤ 4) = false from by simp [h4])
 have e4 : decide ((4 : Int) < (t.length : Int)) = true := by rw [decide_eq_true_iff]; omega
 rw [HD4.out]
 clear h4

 have hRW := (HB1.out.block w.heap.size (by omega)).trans HR0.out
 obtain ⟨z0, z1, z2, z3, z4, z5, f0, f1, f2, f3, f4, f5⟩ := row6f hRW
 clear hRW
 go_enter Tryz.func16, Tryz.ntmps16
 go_wp2_with (rw [HW0.out])
 have hf := fin6_of (X := zeroX) HB0.out HR0.out (by have := (Kept.of_below HB1.out (fun q => w.heap.size + 1 ≤ q)).size; omega) ((Kept.of_below HB1.out (fun q => w.heap.size + 1 ≤ q))) (zero_ob _ _)
 (try simp only [Exit.inBlock, Exit.then])
 refine bodyPost_ret (rcell2 rfl _ _ w.heap.size _ _ _ _ rfl hf.1 Tryz.underlying31 rfl (by kernel_rfl)) rfl ?_
 exact ⟨_, rfl, rfl, hf.2⟩

theorem specPermutationOf_any (t : List Int) (A : Option Addr) (c : Nat) (w : World) (hn : t.length ≤ 1000) (hbd : ∀ x ∈ t, -1000000000 ≤ x ∧ x ≤ 1000000000) (hA : Cells w A (ints t)) :
  Calls Tryz.prog 17 #[.slice A t.length c] w fun e w' => ∃ X : BX, e = .returned (.tuple #[.agg X.cells, .bool (decide (t.length ≤ 4) && eachB t t.length)]) ∧ X.g = (if decide (t.length ≤ 4) && eachB t t.length then permG t else zeroG) ∧ RG w w' X := by
 have HA := Lib.hid (show ∀ W, Below w.heap.size w W → Cells W A (ints t) from fun W hb => hA.below hb)
 obtain ⟨w0, hw0, hb0, hs0, hR0⟩ := laid1 w (.cells ZB 31)
 have HB0 := Lib.hid hb0
 have HR0 := Lib.hid hR0
 have HN := Lib.hid (l2Each_any (t.length : Int) A c t w0 (by omega) (by omega) (by omega) (HA.out w0 hb0))
 have HW0 := Lib.hid (show w.alloc (.cells #[.int .i64 0, .slice none 0 0, .slice none 0 0, .int .i64 0, .slice none 0 0, .slice none 0 0] 31) = w0 from hw0.symm)
 clear hb0 hR0 hw0
 have HB1 := Lib.hid (Below.refl w0.heap.size w0)
 have HBD := Lib.hid hbd
 clear hA hbd
 by_cases h4 : t.length ≤ 4
 ·have HD4 := Lib.hid (show decide (t.length ≤ 4) = true from by simp [h4])
  have e4 : decide ((4 : Int) < (t.length : Int)) = false := by rw [decide_eq_false_iff_not]; omega
  rw [HD4.out]
  clear h4
  cases c1 : eachB t t.length
  ·rw [c1] at HN
   clear c1
   go_enter Tryz.func17, Tryz.ntmps17
   go_wp2_with fail
   rw [HW0.out]
   (with_reducible refine HN.out.mono ?_)
   rintro e w1 ⟨rfl, hb1⟩
   have HB2 := Lib.hid hb1
   clear hb1
   have hRW := (HB2.out.block w.heap.size (by omega)).trans HR0.out
   obtain ⟨z0, z1, z2, z3, z4, z5, f0, f1, f2, f3, f4, f5⟩ := row6f hRW
   clear hRW
   go_wp2_with fail
   have hf := fin6_of (X := zeroX) HB0.out HR0.out (by have := (Kept.of_below HB2.out (fun q => w.heap.size + 1 ≤ q)).size; omega) ((Kept.of_below HB2.out (fun q => w.heap.size + 1 ≤ q))) (zero_ob _ _)
   (try simp only [Exit.inBlock, Exit.then])
   refine bodyPost_ret (rcell2 rfl _ _ w.heap.size _ _ _ _ rfl hf.1 Tryz.underlying31 rfl (by kernel_rfl)) rfl ?_
   exact ⟨_, rfl, rfl, hf.2⟩
  rw [c1] at HN
  clear c1
  go_enter Tryz.func17, Tryz.ntmps17
  go_wp2_with fail
  rw [HW0.out]
  (with_reducible refine HN.out.mono ?_)
  rintro e w1 ⟨rfl, hb1⟩
  have HB2 := Lib.hid hb1
  have HC := Lib.hid (l3Permutation_any t A c w1 hn HBD.out (HA.out w1 (HB0.out.trans (hb1.mono HB0.out.size))))
  clear hb1
  go_wp2_with fail
  (with_reducible refine HC.out.mono ?_)
  rintro e w9 ⟨X, rfl, hXg, hr⟩
  obtain ⟨xr, xe, xnv, xsv, xov, xiv, xns, xls, xss, xos, xis⟩ := X
  obtain ⟨YN, dN, YS, dS, YO, dO, YI, dI, e1, e2, e3, e4⟩ := hr.ob.form
  dsimp only at e1 e2 e3 e4
  subst e1 e2 e3 e4
  have HXG := Lib.hid hXg
  have HB9 := Lib.hid (HB2.out.trans (hr.bel.mono HB2.out.size))
  have hsw := HB2.out.size
  have HR := Lib.hid hr
  clear hXg hr HC
  simp only [BX.cells]
  have hRW := (HB9.out.block w.heap.size (by omega)).trans HR0.out
  obtain ⟨z0, z1, z2, z3, z4, z5, f0, f1, f2, f3, f4, f5⟩ := row6f hRW
  clear hRW
  go_wp2_with fail
  have hf := fin6_of (X := ⟨xr, xe, .slice YN xns.length dN, .slice YS xss.length dS, .slice YO xos.length dO, .slice YI xis.length dI, xns, xls, xss, xos, xis⟩) HB0.out HR0.out (by have := (Kept.of_below HB9.out (fun q => w.heap.size + 1 ≤ q)).size; omega) ((Kept.of_below HB9.out (fun q => w.heap.size + 1 ≤ q))) (HR.out.ob.mono (by omega))
  (try simp only [Exit.inBlock, Exit.then])
  refine bodyPost_ret (rcell2 rfl _ _ w.heap.size _ _ _ _ rfl hf.1 Tryz.underlying31 rfl (by kernel_rfl)) rfl ?_
  exact ⟨_, rfl, (by first | exact HXG.out | (rw [if_pos rfl]; exact HXG.out)), hf.2⟩
 have HD4 := Lib.hid (show decide (t.length ≤ 4) = false from by simp [h4])
 have e4 : decide ((4 : Int) < (t.length : Int)) = true := by rw [decide_eq_true_iff]; omega
 rw [HD4.out]
 clear h4

 have hRW := (HB1.out.block w.heap.size (by omega)).trans HR0.out
 obtain ⟨z0, z1, z2, z3, z4, z5, f0, f1, f2, f3, f4, f5⟩ := row6f hRW
 clear hRW
 go_enter Tryz.func17, Tryz.ntmps17
 go_wp2_with (rw [HW0.out])
 have hf := fin6_of (X := zeroX) HB0.out HR0.out (by have := (Kept.of_below HB1.out (fun q => w.heap.size + 1 ≤ q)).size; omega) ((Kept.of_below HB1.out (fun q => w.heap.size + 1 ≤ q))) (zero_ob _ _)
 (try simp only [Exit.inBlock, Exit.then])
 refine bodyPost_ret (rcell2 rfl _ _ w.heap.size _ _ _ _ rfl hf.1 Tryz.underlying31 rfl (by kernel_rfl)) rfl ?_
 exact ⟨_, rfl, rfl, hf.2⟩

end Go.Proofs.YtijkdpdmclkmlaaGreatDoor
