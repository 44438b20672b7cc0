/- Elements: swaps, merges, barren roots: walked. -/
import Derived.Test.YtijkdpdmclkmlaaGreatDoorProg
import Derived.Test.YtijkdpdmclkmlaaGreatDoorJ0
import Derived.Test.YtijkdpdmclkmlaaGreatDoorJ31
import Derived.Test.YtijkdpdmclkmlaaGreatDoorJ32
import Derived.BigQuiet
set_option linter.unusedSimpArgs false
set_option linter.unusedVariables false
set_option maxRecDepth 100000
set_option maxHeartbeats 16000000
namespace Go.Proofs.YtijkdpdmclkmlaaGreatDoor
open Go.RowKit
/-- Both numbers of a swap are in range. -/
def swapOk (m k : Int) : Bool := inB m 0 4 && inB k 0 (4 - m)
theorem swap_next (a b : Nat) {n : Nat} (h : n < a + b) {x : Int} (hx : x = if n < a then (b : Int) + (n : Int) else (n : Int) - (a : Int)) : ints ((swapL a b).take n) ++ [.int .i64 x] = ints ((swapL a b).take (n + 1)) := by
 have hn : (swapL a b)[n]? = some x := by
  unfold swapL
  rw [List.getElem?_map, List.getElem?_range h, hx]; rfl
 rw [List.take_add_one, hn]
 simp [ints]

theorem implSwapOf_any (m k : Int) (w : World) (hm : -10 ≤ m ∧ m ≤ 10) :
  Calls Tryz.prog 19 #[.int .i64 m, .int .i64 k] w fun e w' => ∃ X : BX, e = .returned (.tuple #[.agg X.cells, .bool (swapOk m k)]) ∧ X.g = (if swapOk m k then permG (swapL m.toNat k.toNat) else zeroG) ∧ RG w w' X := by
 obtain ⟨w0, hw0, hb0, hs0, hR0⟩ := laid1 w (.cells ZB 31)
 have HB0 := Lib.hid hb0
 have HR0 := Lib.hid hR0
 have HW0 := Lib.hid (show w.alloc (.cells #[.int .i64 0, .slice none 0 0, .slice none 0 0, .int .i64 0, .slice none 0 0, .slice none 0 0] 31) = w0 from hw0.symm)
 clear hb0 hR0 hw0
 have HB1 := Lib.hid (Below.refl w0.heap.size w0)
 cases c0 : inB m 0 4
 ·have HE := Lib.hid (show swapOk m k = false from by unfold swapOk; rw [c0]; rfl)
  have HIN := Lib.hid (show ∀ w, Calls Tryz.prog 90 #[.int .i64 m, .int .i64 0, .int .i64 4] w (fun e w' => e = .returned (.bool false) ∧ w = w') from fun w => by have h := within_any m 0 4 w; rw [c0] at h; exact h)
  rw [HE.out]
  clear c0
  go_enter Tryz.func19, Tryz.ntmps19
  go_wp2_with fail
  rw [HW0.out]
  (with_reducible refine (HIN.out _).mono ?_)
  rintro e w' ⟨rfl, rfl⟩
  have hRW := (HB1.out.block w.heap.size (by omega)).trans HR0.out
  obtain ⟨z0, z1, z2, z3, z4, z5, f0, f1, f2, f3, f4, f5⟩ := row6f hRW
  clear hRW
  go_wp2_with fail
  have hf := fin6_of (X := zeroX) HB0.out HR0.out (by have := (Kept.of_below HB1.out (fun q => w.heap.size + 1 ≤ q)).size; omega) ((Kept.of_below HB1.out (fun q => w.heap.size + 1 ≤ q))) (zero_ob _ _)
  (try simp only [Exit.inBlock, Exit.then])
  refine bodyPost_ret (rcell2 rfl _ _ w.heap.size _ _ _ _ rfl hf.1 Tryz.underlying31 rfl (by kernel_rfl)) rfl ?_
  exact ⟨_, rfl, rfl, hf.2⟩
 obtain ⟨hm0, hm4⟩ := inB_true c0
 have HIN := Lib.hid (show ∀ w, Calls Tryz.prog 90 #[.int .i64 m, .int .i64 0, .int .i64 4] w (fun e w' => e = .returned (.bool true) ∧ w = w') from fun w => by have h := within_any m 0 4 w; rw [c0] at h; exact h)
 obtain ⟨a, rfl⟩ := Int.eq_ofNat_of_zero_le hm0
 cases c1 : inB k 0 (4 - (a : Int))
 ·have HE := Lib.hid (show swapOk (a : Int) k = false from by unfold swapOk; rw [c0, c1]; rfl)
  have HIM := Lib.hid (show ∀ w, Calls Tryz.prog 90 #[.int .i64 k, .int .i64 0, .int .i64 (4 - (a : Int))] w (fun e w' => e = .returned (.bool false) ∧ w = w') from fun w => by have h := within_any k 0 (4 - (a : Int)) w; rw [c1] at h; exact h)
  rw [HE.out]
  clear c0 c1
  go_enter Tryz.func19, Tryz.ntmps19
  go_wp2_with fail
  rw [HW0.out]
  (with_reducible refine (HIN.out _).mono ?_)
  rintro e w' ⟨rfl, rfl⟩
  go_wp2_with fail
  (with_reducible refine (HIM.out _).mono ?_)
  rintro e w' ⟨rfl, rfl⟩
  have hRW := (HB1.out.block w.heap.size (by omega)).trans HR0.out
  obtain ⟨z0, z1, z2, z3, z4, z5, f0, f1, f2, f3, f4, f5⟩ := row6f hRW
  clear hRW
  go_wp2_with fail
  have hf := fin6_of (X := zeroX) HB0.out HR0.out (by have := (Kept.of_below HB1.out (fun q => w.heap.size + 1 ≤ q)).size; omega) ((Kept.of_below HB1.out (fun q => w.heap.size + 1 ≤ q))) (zero_ob _ _)
  (try simp only [Exit.inBlock, Exit.then])
  refine bodyPost_ret (rcell2 rfl _ _ w.heap.size _ _ _ _ rfl hf.1 Tryz.underlying31 rfl (by kernel_rfl)) rfl ?_
  exact ⟨_, rfl, rfl, hf.2⟩
 obtain ⟨hk0, hk4⟩ := inB_true c1
 have HIM := Lib.hid (show ∀ w, Calls Tryz.prog 90 #[.int .i64 k, .int .i64 0, .int .i64 (4 - (a : Int))] w (fun e w' => e = .returned (.bool true) ∧ w = w') from fun w => by have h := within_any k 0 (4 - (a : Int)) w; rw [c1] at h; exact h)
 obtain ⟨b, rfl⟩ := Int.eq_ofNat_of_zero_le hk0
 have HE := Lib.hid (show swapOk (a : Int) (b : Int) = true from by unfold swapOk; rw [c0, c1]; rfl)
 rw [HE.out]
 clear c0 c1
 go_enter Tryz.func19, Tryz.ntmps19
 go_wp2_with fail
 rw [HW0.out]
 (with_reducible refine (HIN.out _).mono ?_)
 rintro e w' ⟨rfl, rfl⟩
 go_wp2_with fail
 (with_reducible refine (HIM.out _).mono ?_)
 rintro e w' ⟨rfl, rfl⟩
 go_wp2_with fail
 go_loopw [6, 22] (fun v i wr => ∃ (j : Nat), j ≤ a ∧ i = .int .i64 j ∧ wr.ownsRow w0.heap.size 3 1 v (j) (ints ((swapL a b).take (j))) ∧ Below w0.heap.size w0 wr)
  (fun v i _ => a - (intOf i).toNat)
 case atStart => exact ⟨0, Nat.zero_le _, rfl, (by rw [← hs0]; exact made_rowG w0 3), (Below.refl _ _).alloc (Nat.le_refl _) _⟩
 obtain ⟨j, hj, rfl, hown, hbel⟩ := hrel
 obtain ⟨AL, cL, rfl, hown⟩ := owns_form hown
 have HO := Lib.hid hown
 have HBE := Lib.hid hbel
 have hsz := hbel.size
 clear hown hbel
 by_cases hlt : j < a
 ·have HXE := Lib.hid (show ints ((swapL a b).take (j)) ++ [.int .i64 ((b : Int) + (j : Int))] = ints ((swapL a b).take ((j + 1))) from swap_next a b (n := j) (by omega) (by rw [if_pos (by omega)]))
  go_wp2_with (at_builtin; refine wpList_app el_intG rfl _ _ rfl w0.heap.size _ _ _ rfl HO.out [.int .i64 ((b : Int) + (j : Int))] rfl rfl rfl (one1 rfl) (by omega) hsz ?_; intro v2 w2 ho hk2 hm2)
  have HO2 := Lib.hid (show w2.ownsRow w0.heap.size 3 1 v2 ((j + 1)) (ints ((swapL a b).take ((j + 1)))) from by rw [← HXE.out]; exact ho)
  have HB2 := Lib.hid (below_kept HBE.out hk2 (fun q hq => (HO.out.lt q hq).1) hsz)
  clear ho hk2 hm2
  go_wp2_with fail
  go_roundw
  case rel => exact ⟨j + 1, by omega, by go_num, HO2.out, HB2.out⟩
  case measure => simp [intOf]; omega
 obtain rfl : a = j := by omega
 go_wp2_with fail
 obtain ⟨wq, hwq⟩ : ∃ wq, wq = wr := ⟨_, rfl⟩
 subst hwq
 go_loopw [6, 33] (fun v i wr => ∃ (j : Nat), j ≤ b ∧ i = .int .i64 j ∧ wr.ownsRow w0.heap.size 3 1 v (a + j) (ints ((swapL a b).take (a + j))) ∧ Below w0.heap.size w0 wr)
  (fun v i _ => b - (intOf i).toNat)
 case atStart => exact ⟨0, Nat.zero_le _, rfl, (by rw [Nat.add_zero]; exact HO.out), HBE.out⟩
 obtain ⟨j, hj, rfl, hown, hbel⟩ := hrel
 obtain ⟨AL, cL, rfl, hown⟩ := owns_form hown
 have HO := Lib.hid hown
 have HBE := Lib.hid hbel
 have hsz := hbel.size
 clear hown hbel
 by_cases hlt : j < b
 ·have HXE := Lib.hid (show ints ((swapL a b).take (a + j)) ++ [.int .i64 (j : Int)] = ints ((swapL a b).take (a + (j + 1))) from by have h := swap_next a b (n := a + j) (by omega) (x := (j : Int)) (by rw [if_neg (by omega)]; omega); exact h)
  go_wp2_with (at_builtin; refine wpList_app el_intG rfl _ _ rfl w0.heap.size _ _ _ rfl HO.out [.int .i64 (j : Int)] rfl rfl rfl (one1 rfl) (by omega) hsz ?_; intro v2 w2 ho hk2 hm2)
  have HO2 := Lib.hid (show w2.ownsRow w0.heap.size 3 1 v2 (a + (j + 1)) (ints ((swapL a b).take (a + (j + 1)))) from by rw [← HXE.out]; exact ho)
  have HB2 := Lib.hid (below_kept HBE.out hk2 (fun q hq => (HO.out.lt q hq).1) hsz)
  clear ho hk2 hm2
  go_wp2_with fail
  go_roundw
  case rel => exact ⟨j + 1, by omega, by go_num, HO2.out, HB2.out⟩
  case measure => simp [intOf]; omega
 obtain rfl : b = j := by omega
 have HCL := permutation_any (swapL a b) AL cL wr (by rw [swapL_len]; omega) (fun x hx => by have := swapL_mem hx; omega) (by have h := Cells.of_owns HO.out; rw [List.take_of_length_le (by rw [swapL_len]; omega)] at h; exact h)
 rw [swapL_len] at HCL
 have HC := Lib.hid HCL
 clear HCL
 go_wp2_with fail
 (with_reducible refine HC.out.mono ?_)
 rintro e w9 ⟨X, rfl, hXg, hr⟩
 obtain ⟨xr, xe, xnv, xsv, xov, xiv, xns, xls, xss, xos, xis⟩ := X
 obtain ⟨YN, dN, YS, dS, YO, dO, YI, dI, e1, e2, e3, e4⟩ := hr.ob.form
 dsimp only at e1 e2 e3 e4
 subst e1 e2 e3 e4
 have HXG := Lib.hid hXg
 have HB9 := Lib.hid (HBE.out.trans (hr.bel.mono HBE.out.size))
 have hsw := HBE.out.size
 have HR := Lib.hid hr
 clear hXg hr HC
 simp only [BX.cells]
 have hRW := (HB9.out.block w.heap.size (by omega)).trans HR0.out
 obtain ⟨z0, z1, z2, z3, z4, z5, f0, f1, f2, f3, f4, f5⟩ := row6f hRW
 clear hRW
 go_wp2_with fail
 have hf := fin6_of (X := ⟨xr, xe, .slice YN xns.length dN, .slice YS xss.length dS, .slice YO xos.length dO, .slice YI xis.length dI, xns, xls, xss, xos, xis⟩) HB0.out HR0.out (by have := (Kept.of_below HB9.out (fun q => w.heap.size + 1 ≤ q)).size; omega) ((Kept.of_below HB9.out (fun q => w.heap.size + 1 ≤ q))) (HR.out.ob.mono (by omega))
 (try simp only [Exit.inBlock, Exit.then])
 refine bodyPost_ret (rcell2 rfl _ _ w.heap.size _ _ _ _ rfl hf.1 Tryz.underlying31 rfl (by kernel_rfl)) rfl ?_
 exact ⟨_, rfl, (by first | exact HXG.out | (rw [if_pos rfl]; exact HXG.out)), hf.2⟩
theorem specSwapOf_any (m k : Int) (w : World) (hm : -10 ≤ m ∧ m ≤ 10) :
  Calls Tryz.prog 20 #[.int .i64 m, .int .i64 k] w fun e w' => ∃ X : BX, e = .returned (.tuple #[.agg X.cells, .bool (swapOk m k)]) ∧ X.g = (if swapOk m k then permG (swapL m.toNat k.toNat) else zeroG) ∧ RG w w' X := by
 obtain ⟨w0, hw0, hb0, hs0, hR0⟩ := laid1 w (.cells ZB 31)
 have HB0 := Lib.hid hb0
 have HR0 := Lib.hid hR0
 have HW0 := Lib.hid (show w.alloc (.cells #[.int .i64 0, .slice none 0 0, .slice none 0 0, .int .i64 0, .slice none 0 0, .slice none 0 0] 31) = w0 from hw0.symm)
 clear hb0 hR0 hw0
 have HB1 := Lib.hid (Below.refl w0.heap.size w0)
 have HOM := Lib.hid (show (w0.alloc (.cells #[] 3)).ownsRow w0.heap.size 3 1 (.slice (some ⟨w0.heap.size, 0, none⟩) 0 0) 0 (ints []) from made_rowG w0 3)
 obtain ⟨wa, hwa, hba, hsa, -⟩ := laid1 w0 (.cells #[] 3)
 rw [← hwa] at HOM
 have HBA := Lib.hid hba
 have HWA := Lib.hid (show (w.alloc (.cells #[.int .i64 0, .slice none 0 0, .slice none 0 0, .int .i64 0, .slice none 0 0, .slice none 0 0] 31)).alloc (.cells #[] 3) = wa from by rw [HW0.out]; exact hwa.symm)
 clear hwa hba
 cases c0 : inB m 0 4
 ·have HE := Lib.hid (show swapOk m k = false from by unfold swapOk; rw [c0]; rfl)
  have HIN := Lib.hid (show ∀ w, Calls Tryz.prog 93 #[.int .i64 m, .int .i64 0, .int .i64 4] w (fun e w' => e = .returned (.bool false) ∧ w = w') from fun w => by have h := l1In_any m 0 4 w; rw [c0] at h; exact h)
  rw [HE.out]
  clear c0
  go_enter Tryz.func20, Tryz.ntmps20
  go_wp2_with fail
  rw [HWA.out]
  (with_reducible refine (HIN.out _).mono ?_)
  rintro e w' ⟨rfl, rfl⟩
  have hRW := (HBA.out.block w.heap.size (by omega)).trans HR0.out
  obtain ⟨z0, z1, z2, z3, z4, z5, f0, f1, f2, f3, f4, f5⟩ := row6f hRW
  clear hRW
  go_wp2_with fail
  have hf := fin6_of (X := zeroX) HB0.out HR0.out (by have := (Kept.of_below HBA.out (fun q => w.heap.size + 1 ≤ q)).size; omega) ((Kept.of_below HBA.out (fun q => w.heap.size + 1 ≤ q))) (zero_ob _ _)
  (try simp only [Exit.inBlock, Exit.then])
  refine bodyPost_ret (rcell2 rfl _ _ w.heap.size _ _ _ _ rfl hf.1 Tryz.underlying31 rfl (by kernel_rfl)) rfl ?_
  exact ⟨_, rfl, rfl, hf.2⟩
 obtain ⟨hm0, hm4⟩ := inB_true c0
 have HIN := Lib.hid (show ∀ w, Calls Tryz.prog 93 #[.int .i64 m, .int .i64 0, .int .i64 4] w (fun e w' => e = .returned (.bool true) ∧ w = w') from fun w => by have h := l1In_any m 0 4 w; rw [c0] at h; exact h)
 obtain ⟨a, rfl⟩ := Int.eq_ofNat_of_zero_le hm0
 cases c1 : inB k 0 (4 - (a : Int))
 ·have HE := Lib.hid (show swapOk (a : Int) k = false from by unfold swapOk; rw [c0, c1]; rfl)
  have HIM := Lib.hid (show ∀ w, Calls Tryz.prog 93 #[.int .i64 k, .int .i64 0, .int .i64 (4 - (a : Int))] w (fun e w' => e = .returned (.bool false) ∧ w = w') from fun w => by have h := l1In_any k 0 (4 - (a : Int)) w; rw [c1] at h; exact h)
  rw [HE.out]
  clear c0 c1
  go_enter Tryz.func20, Tryz.ntmps20
  go_wp2_with fail
  rw [HWA.out]
  (with_reducible refine (HIN.out _).mono ?_)
  rintro e w' ⟨rfl, rfl⟩
  go_wp2_with fail
  (with_reducible refine (HIM.out _).mono ?_)
  rintro e w' ⟨rfl, rfl⟩
  have hRW := (HBA.out.block w.heap.size (by omega)).trans HR0.out
  obtain ⟨z0, z1, z2, z3, z4, z5, f0, f1, f2, f3, f4, f5⟩ := row6f hRW
  clear hRW
  go_wp2_with fail
  have hf := fin6_of (X := zeroX) HB0.out HR0.out (by have := (Kept.of_below HBA.out (fun q => w.heap.size + 1 ≤ q)).size; omega) ((Kept.of_below HBA.out (fun q => w.heap.size + 1 ≤ q))) (zero_ob _ _)
  (try simp only [Exit.inBlock, Exit.then])
  refine bodyPost_ret (rcell2 rfl _ _ w.heap.size _ _ _ _ rfl hf.1 Tryz.underlying31 rfl (by kernel_rfl)) rfl ?_
  exact ⟨_, rfl, rfl, hf.2⟩
 obtain ⟨hk0, hk4⟩ := inB_true c1
 have HIM := Lib.hid (show ∀ w, Calls Tryz.prog 93 #[.int .i64 k, .int .i64 0, .int .i64 (4 - (a : Int))] w (fun e w' => e = .returned (.bool true) ∧ w = w') from fun w => by have h := l1In_any k 0 (4 - (a : Int)) w; rw [c1] at h; exact h)
 obtain ⟨b, rfl⟩ := Int.eq_ofNat_of_zero_le hk0
 have HE := Lib.hid (show swapOk (a : Int) (b : Int) = true from by unfold swapOk; rw [c0, c1]; rfl)
 rw [HE.out]
 clear c0 c1
 go_enter Tryz.func20, Tryz.ntmps20
 go_wp2_with fail
 rw [HWA.out]
 (with_reducible refine (HIN.out _).mono ?_)
 rintro e w' ⟨rfl, rfl⟩
 go_wp2_with fail
 (with_reducible refine (HIM.out _).mono ?_)
 rintro e w' ⟨rfl, rfl⟩
 go_wp2_with fail
 go_loopw [6, 7] (fun v i wr => ∃ (j : Nat), j ≤ (a + b) ∧ i = .int .i64 j ∧ wr.ownsRow w0.heap.size 3 1 v (j) (ints ((swapL a b).take (j))) ∧ Below w0.heap.size w0 wr)
  (fun v i _ => (a + b) - (intOf i).toNat)
 case atStart => exact ⟨0, Nat.zero_le _, rfl, (by rw [← hs0]; exact HOM.out), HBA.out⟩
 obtain ⟨j, hj, rfl, hown, hbel⟩ := hrel
 obtain ⟨AL, cL, rfl, hown⟩ := owns_form hown
 have HO := Lib.hid hown
 have HBE := Lib.hid hbel
 have hsz := hbel.size
 clear hown hbel
 by_cases hlt : j < (a + b)
 ·by_cases hja : j < a
  ·have HXE := Lib.hid (show ints ((swapL a b).take (j)) ++ [.int .i64 ((b : Int) + (j : Int))] = ints ((swapL a b).take ((j + 1))) from swap_next a b (n := j) (by omega) (by rw [if_pos hja]))
   go_wp2_with (at_builtin; refine wpList_app el_intG rfl _ _ rfl w0.heap.size _ _ _ rfl HO.out [.int .i64 ((b : Int) + (j : Int))] rfl rfl rfl (one1 rfl) (by omega) hsz ?_; intro v2 w2 ho hk2 hm2)
   have HO2 := Lib.hid (show w2.ownsRow w0.heap.size 3 1 v2 ((j + 1)) (ints ((swapL a b).take ((j + 1)))) from by rw [← HXE.out]; exact ho)
   have HB2 := Lib.hid (below_kept HBE.out hk2 (fun q hq => (HO.out.lt q hq).1) hsz)
   clear ho hk2 hm2
   go_wp2_with fail
   go_roundw
   case rel => exact ⟨j + 1, by omega, by go_num, HO2.out, HB2.out⟩
   case measure => simp [intOf]; omega
  have HXE := Lib.hid (show ints ((swapL a b).take (j)) ++ [.int .i64 ((j : Int) - (a : Int))] = ints ((swapL a b).take ((j + 1))) from swap_next a b (n := j) (by omega) (by rw [if_neg hja]))
  go_wp2_with (at_builtin; refine wpList_app el_intG rfl _ _ rfl w0.heap.size _ _ _ rfl HO.out [.int .i64 ((j : Int) - (a : Int))] rfl rfl rfl (one1 rfl) (by omega) hsz ?_; intro v2 w2 ho hk2 hm2)
  have HO2 := Lib.hid (show w2.ownsRow w0.heap.size 3 1 v2 ((j + 1)) (ints ((swapL a b).take ((j + 1)))) from by rw [← HXE.out]; exact ho)
  have HB2 := Lib.hid (below_kept HBE.out hk2 (fun q hq => (HO.out.lt q hq).1) hsz)
  clear ho hk2 hm2
  go_wp2_with fail
  go_roundw
  case rel => exact ⟨j + 1, by omega, by go_num, HO2.out, HB2.out⟩
  case measure => simp [intOf]; omega
 obtain rfl : j = (a + b) := by omega
 have HCL := l3Permutation_any (swapL a b) AL cL wr (by rw [swapL_len]; omega) (fun x hx => by have := swapL_mem hx; omega) (by have h := Cells.of_owns HO.out; rw [List.take_of_length_le (by rw [swapL_len]; omega)] at h; exact h)
 rw [swapL_len] at HCL
 have HC := Lib.hid HCL
 clear HCL
 go_wp2_with fail
 (with_reducible refine HC.out.mono ?_)
 rintro e w9 ⟨X, rfl, hXg, hr⟩
 obtain ⟨xr, xe, xnv, xsv, xov, xiv, xns, xls, xss, xos, xis⟩ := X
 obtain ⟨YN, dN, YS, dS, YO, dO, YI, dI, e1, e2, e3, e4⟩ := hr.ob.form
 dsimp only at e1 e2 e3 e4
 subst e1 e2 e3 e4
 have HXG := Lib.hid hXg
 have HB9 := Lib.hid (HBE.out.trans (hr.bel.mono HBE.out.size))
 have hsw := HBE.out.size
 have HR := Lib.hid hr
 clear hXg hr HC
 simp only [BX.cells]
 have hRW := (HB9.out.block w.heap.size (by omega)).trans HR0.out
 obtain ⟨z0, z1, z2, z3, z4, z5, f0, f1, f2, f3, f4, f5⟩ := row6f hRW
 clear hRW
 go_wp2_with fail
 have hf := fin6_of (X := ⟨xr, xe, .slice YN xns.length dN, .slice YS xss.length dS, .slice YO xos.length dO, .slice YI xis.length dI, xns, xls, xss, xos, xis⟩) HB0.out HR0.out (by have := (Kept.of_below HB9.out (fun q => w.heap.size + 1 ≤ q)).size; omega) ((Kept.of_below HB9.out (fun q => w.heap.size + 1 ≤ q))) (HR.out.ob.mono (by omega))
 (try simp only [Exit.inBlock, Exit.then])
 refine bodyPost_ret (rcell2 rfl _ _ w.heap.size _ _ _ _ rfl hf.1 Tryz.underlying31 rfl (by kernel_rfl)) rfl ?_
 exact ⟨_, rfl, (by first | exact HXG.out | (rw [if_pos rfl]; exact HXG.out)), hf.2⟩
theorem implBarrenOf_any (n : Int) (w : World) :
  Calls Tryz.prog 24 #[.int .i64 n] w fun e w' => ∃ X : BX, e = .returned (.tuple #[.agg X.cells, .bool (inB n 0 4)]) ∧ X.g = (if inB n 0 4 then barG n else zeroG) ∧ RG w w' X := by
 obtain ⟨w0, hw0, hb0, hs0, hR0⟩ := laid1 w (.cells ZB 31)
 have HB0 := Lib.hid hb0
 have HR0 := Lib.hid hR0
 have HW0 := Lib.hid (show w.alloc (.cells #[.int .i64 0, .slice none 0 0, .slice none 0 0, .int .i64 0, .slice none 0 0, .slice none 0 0] 31) = w0 from hw0.symm)
 clear hb0 hR0 hw0
 have HB1 := Lib.hid (Below.refl w0.heap.size w0)
 cases c0 : inB n 0 4
 ·have HIN := Lib.hid (show ∀ w, Calls Tryz.prog 90 #[.int .i64 n, .int .i64 0, .int .i64 4] w (fun e w' => e = .returned (.bool false) ∧ w = w') from fun w => by have h := within_any n 0 4 w; rw [c0] at h; exact h)
  clear c0
  go_enter Tryz.func24, Tryz.ntmps24
  go_wp2_with fail
  rw [HW0.out]
  (with_reducible refine (HIN.out _).mono ?_)
  rintro e w' ⟨rfl, rfl⟩
  have hRW := (HB1.out.block w.heap.size (by omega)).trans HR0.out
  obtain ⟨z0, z1, z2, z3, z4, z5, f0, f1, f2, f3, f4, f5⟩ := row6f hRW
  clear hRW
  go_wp2_with fail
  have hf := fin6_of (X := zeroX) HB0.out HR0.out (by have := (Kept.of_below HB1.out (fun q => w.heap.size + 1 ≤ q)).size; omega) ((Kept.of_below HB1.out (fun q => w.heap.size + 1 ≤ q))) (zero_ob _ _)
  (try simp only [Exit.inBlock, Exit.then])
  refine bodyPost_ret (rcell2 rfl _ _ w.heap.size _ _ _ _ rfl hf.1 Tryz.underlying31 rfl (by kernel_rfl)) rfl ?_
  exact ⟨_, rfl, rfl, hf.2⟩
 have HIN := Lib.hid (show ∀ w, Calls Tryz.prog 90 #[.int .i64 n, .int .i64 0, .int .i64 4] w (fun e w' => e = .returned (.bool true) ∧ w = w') from fun w => by have h := within_any n 0 4 w; rw [c0] at h; exact h)
 clear c0
 go_enter Tryz.func24, Tryz.ntmps24
 go_wp2_with fail
 rw [HW0.out]
 (with_reducible refine (HIN.out _).mono ?_)
 rintro e w' ⟨rfl, rfl⟩
 have hRW := (HB1.out.block w.heap.size (by omega)).trans HR0.out
 obtain ⟨z0, z1, z2, z3, z4, z5, f0, f1, f2, f3, f4, f5⟩ := row6f hRW
 clear hRW
 go_wp2_with fail
 have hf := fin6_of (X := ⟨n, 0, nilV, nilV, nilV, nilV, [], [], [], [], []⟩) HB0.out HR0.out (by have := (Kept.of_below HB1.out (fun q => w.heap.size + 1 ≤ q)).size; omega) ((Kept.of_below HB1.out (fun q => w.heap.size + 1 ≤ q))) (ob_none _ _ _ _)
 (try simp only [Exit.inBlock, Exit.then])
 refine bodyPost_ret (rcell2 rfl _ _ w.heap.size _ _ _ _ rfl hf.1 Tryz.underlying31 rfl (by kernel_rfl)) rfl ?_
 exact ⟨_, rfl, rfl, hf.2⟩

theorem specBarrenOf_any (n : Int) (w : World) :
  Calls Tryz.prog 25 #[.int .i64 n] w fun e w' => ∃ X : BX, e = .returned (.tuple #[.agg X.cells, .bool (inB n 0 4)]) ∧ X.g = (if inB n 0 4 then barG n else zeroG) ∧ RG w w' X := by
 obtain ⟨w0, hw0, hb0, hs0, hR0⟩ := laid1 w (.cells ZB 31)
 have HB0 := Lib.hid hb0
 have HR0 := Lib.hid hR0
 have HW0 := Lib.hid (show w.alloc (.cells #[.int .i64 0, .slice none 0 0, .slice none 0 0, .int .i64 0, .slice none 0 0, .slice none 0 0] 31) = w0 from hw0.symm)
 clear hb0 hR0 hw0
 have HB1 := Lib.hid (Below.refl w0.heap.size w0)
 cases c0 : inB n 0 4
 ·have HIN := Lib.hid (show ∀ w, Calls Tryz.prog 93 #[.int .i64 n, .int .i64 0, .int .i64 4] w (fun e w' => e = .returned (.bool false) ∧ w = w') from fun w => by have h := l1In_any n 0 4 w; rw [c0] at h; exact h)
  clear c0
  go_enter Tryz.func25, Tryz.ntmps25
  go_wp2_with fail
  rw [HW0.out]
  (with_reducible refine (HIN.out _).mono ?_)
  rintro e w' ⟨rfl, rfl⟩
  have hRW := (HB1.out.block w.heap.size (by omega)).trans HR0.out
  obtain ⟨z0, z1, z2, z3, z4, z5, f0, f1, f2, f3, f4, f5⟩ := row6f hRW
  clear hRW
  go_wp2_with fail
  have hf := fin6_of (X := zeroX) HB0.out HR0.out (by have := (Kept.of_below HB1.out (fun q => w.heap.size + 1 ≤ q)).size; omega) ((Kept.of_below HB1.out (fun q => w.heap.size + 1 ≤ q))) (zero_ob _ _)
  (try simp only [Exit.inBlock, Exit.then])
  refine bodyPost_ret (rcell2 rfl _ _ w.heap.size _ _ _ _ rfl hf.1 Tryz.underlying31 rfl (by kernel_rfl)) rfl ?_
  exact ⟨_, rfl, rfl, hf.2⟩
 have HIN := Lib.hid (show ∀ w, Calls Tryz.prog 93 #[.int .i64 n, .int .i64 0, .int .i64 4] w (fun e w' => e = .returned (.bool true) ∧ w = w') from fun w => by have h := l1In_any n 0 4 w; rw [c0] at h; exact h)
 clear c0
 go_enter Tryz.func25, Tryz.ntmps25
 go_wp2_with fail
 rw [HW0.out]
 (with_reducible refine (HIN.out _).mono ?_)
 rintro e w' ⟨rfl, rfl⟩
 have hRW := (HB1.out.block w.heap.size (by omega)).trans HR0.out
 obtain ⟨z0, z1, z2, z3, z4, z5, f0, f1, f2, f3, f4, f5⟩ := row6f hRW
 clear hRW
 go_wp2_with fail
 have hf := fin6_of (X := ⟨n, 0, nilV, nilV, nilV, nilV, [], [], [], [], []⟩) HB0.out HR0.out (by have := (Kept.of_below HB1.out (fun q => w.heap.size + 1 ≤ q)).size; omega) ((Kept.of_below HB1.out (fun q => w.heap.size + 1 ≤ q))) (ob_none _ _ _ _)
 (try simp only [Exit.inBlock, Exit.then])
 refine bodyPost_ret (rcell2 rfl _ _ w.heap.size _ _ _ _ rfl hf.1 Tryz.underlying31 rfl (by kernel_rfl)) rfl ?_
 exact ⟨_, rfl, rfl, hf.2⟩

theorem implMergeOf_any (n : Int) (w : World) :
    Calls Tryz.prog 22 #[.int .i64 n] w fun e w' => ∃ X : BX, e = .returned (.tuple #[.agg X.cells, .bool (inB n 0 4)]) ∧ X.g = (if inB n 0 4 then mergeG n.toNat else zeroG) ∧ RG w w' X := by
  obtain ⟨w0, hw0, hb0, hs0, hR0⟩ := laid1 w (.cells ZB 31)
  have HB0 := Lib.hid hb0
  have HR0 := Lib.hid hR0
  have HW0 := Lib.hid (show w.alloc (.cells #[.int .i64 0, .slice none 0 0, .slice none 0 0, .int .i64 0, .slice none 0 0, .slice none 0 0] 31) = w0 from hw0.symm)
  clear hb0 hR0 hw0
  have HB1 := Lib.hid (Below.refl w0.heap.size w0)
  cases c0 : inB n 0 4
  · have HIN := Lib.hid (show ∀ w, Calls Tryz.prog 90 #[.int .i64 n, .int .i64 0, .int .i64 4] w (fun e w' => e = .returned (.bool false) ∧ w = w') from fun w => by have h := within_any n 0 4 w; rw [c0] at h; exact h)
    clear c0
    go_enter Tryz.func22, Tryz.ntmps22
    go_wp2_with fail
    rw [HW0.out]
    (with_reducible refine (HIN.out _).mono ?_)
    rintro e w' ⟨rfl, rfl⟩
    have hRW := (HB1.out.block w.heap.size (by omega)).trans HR0.out
    obtain ⟨z0, z1, z2, z3, z4, z5, f0, f1, f2, f3, f4, f5⟩ := row6f hRW
    clear hRW
    go_wp2_with fail
    have hf := fin6_of (X := zeroX) HB0.out HR0.out (by have := (Kept.of_below HB1.out (fun q => w.heap.size + 1 ≤ q)).size; omega) ((Kept.of_below HB1.out (fun q => w.heap.size + 1 ≤ q))) (zero_ob _ _)
    (try simp only [Exit.inBlock, Exit.then])
    refine bodyPost_ret (rcell2 rfl _ _ w.heap.size _ _ _ _ rfl hf.1 Tryz.underlying31 rfl (by kernel_rfl)) rfl ?_
    exact ⟨_, rfl, rfl, hf.2⟩
  obtain ⟨hn0, hn4⟩ := inB_true c0
  have HIN := Lib.hid (show ∀ w, Calls Tryz.prog 90 #[.int .i64 n, .int .i64 0, .int .i64 4] w (fun e w' => e = .returned (.bool true) ∧ w = w') from fun w => by have h := within_any n 0 4 w; rw [c0] at h; exact h)
  obtain ⟨m, rfl⟩ := Int.eq_ofNat_of_zero_le hn0
  clear c0
  obtain ⟨wL, hwL, hbL, hsL, hgL⟩ := laid1 w0 (.cells #[.int .i64 (-1)] 3)
  have HC := Lib.hid (show Calls Tryz.prog 103 #[.slice (some ⟨w.heap.size + 1, 0, none⟩) 1 1, .int .i64 (m : Int)] wL (fun e w' => ∃ v, e = .returned v ∧ w'.ownsRow wL.heap.size 3 1 v m (ints (List.replicate m (-1))) ∧ Below wL.heap.size wL w') from by
    rcases Nat.eq_zero_or_pos m with h | h
    · subst h; exact repeat0_any _ _ (-1) _
    exact repeat_any _ _ (-1) m _ h (by omega) (by rw [← hs0]; exact cells_of_heap (show wL.heap[w0.heap.size]? = some (.cells (ints [-1]).toArray 3) from hgL)))
  have HBL := Lib.hid hbL
  have HWL := Lib.hid (show w0.alloc (.cells #[.int .i64 (-1)] 3) = wL from hwL.symm)
  clear hwL hbL hgL
  go_enter Tryz.func22, Tryz.ntmps22
  go_wp2_with fail
  rw [HW0.out]
  (with_reducible refine (HIN.out _).mono ?_)
  rintro e w' ⟨rfl, rfl⟩
  go_wp2_with fail
  rw [HWL.out]
  (with_reducible refine HC.out.mono ?_)
  rintro e w9 ⟨v, rfl, ho, hb⟩
  obtain ⟨AV, cV, rfl, ho⟩ := owns_form ho
  have HO := Lib.hid ho
  have HB9 := Lib.hid (HBL.out.trans (hb.mono HBL.out.size))
  have hsz9 := HB9.out.size
  clear ho hb HC
  have hRW := (HB9.out.block w.heap.size (by omega)).trans HR0.out
  obtain ⟨z0, z1, z2, z3, z4, z5, f0, f1, f2, f3, f4, f5⟩ := row6f hRW
  clear hRW
  go_wp2_with fail
  have hob : OB w9 (w.heap.size + 1) ⟨1, 0, nilV, .slice AV m cV, nilV, nilV, [], [], List.replicate m (-1), [], []⟩ :=
    { N := { own := none_row, len := rfl, lk := fun i l x h => by simp at h, dis := fun i j l l' b _ h => by simp at h, sep := fun i l b h => by simp at h }
      S := by show w9.ownsRow _ _ 1 _ (List.replicate m (-1)).length _; rw [List.length_replicate]; exact owns_mono HO.out (by omega)
      O := none_row, I := none_row }
  have hf := fin6_of (X := ⟨1, 0, nilV, .slice AV m cV, nilV, nilV, [], [], List.replicate m (-1), [], []⟩) HB0.out HR0.out (by have := (Kept.of_below HB9.out (fun q => w.heap.size + 1 ≤ q)).size; omega) ((Kept.of_below HB9.out (fun q => w.heap.size + 1 ≤ q))) (hob)
  (try simp only [Exit.inBlock, Exit.then])
  refine bodyPost_ret (rcell2 rfl _ _ w.heap.size _ _ _ _ rfl hf.1 Tryz.underlying31 rfl (by kernel_rfl)) rfl ?_
  exact ⟨_, rfl, rfl, hf.2⟩

end Go.Proofs.YtijkdpdmclkmlaaGreatDoor
