/- Elements of the reference: merges, ions, substitutions: walked. Marks: memory of a call's own is written over with numbers that rise, and asked for them. []int and [][]int. Whether a slice of ints has a number: program and reference walked. Labelled systems marked and asked for the mark. -/
import Derived.Test.YtijkdpdmclkmlaaGreatDoorProg
import Derived.Test.YtijkdpdmclkmlaaGreatDoorJ0
import Derived.Test.YtijkdpdmclkmlaaGreatDoorJ24
import Derived.Test.YtijkdpdmclkmlaaGreatDoorJ16
import Derived.Test.YtijkdpdmclkmlaaGreatDoorJ11
import Derived.Test.YtijkdpdmclkmlaaGreatDoorJ7
import Derived.BigQuiet
import Derived.Test.YtijkdpdmclkmlaaGreatDoorJ29
import Derived.Test.YtijkdpdmclkmlaaGreatDoorJ5
import Derived.Handy
import Derived.StillTailTactics
set_option linter.unusedSimpArgs false
set_option linter.unusedVariables false
set_option maxRecDepth 100000
set_option maxHeartbeats 16000000
namespace Go.Proofs.YtijkdpdmclkmlaaGreatDoor
open Go.RowKit
theorem specMergeOf_any (n : Int) (w : World) :
    Calls Tryz.prog 23 #[.int .i64 n] w fun e w' => ∃ X : BX, e = .returned (.tuple #[.agg X.cells, .bool (inB n 0 4)]) ∧ X.g = (if inB n 0 4 then mergeG n.toNat else zeroG) ∧ RG w w' X := by
  have HQ := Lib.hid l1In_any
  obtain ⟨w0, hw0, hb0, hs0, hR0, hP0⟩ := laid2 w (.cells ZB 31) (.cells #[.int .i64 1, .slice none 0 0, .slice none 0 0, .int .i64 0, .slice none 0 0, .slice none 0 0] 31)
  have HB0 := Lib.hid hb0
  have HR0 := Lib.hid hR0
  have HP0 := Lib.hid hP0
  have HW0 := Lib.hid (show (w.alloc (.cells #[.int .i64 0, .slice none 0 0, .slice none 0 0, .int .i64 0, .slice none 0 0, .slice none 0 0] 31)).alloc (.cells #[.int .i64 1, .slice none 0 0, .slice none 0 0, .int .i64 0, .slice none 0 0, .slice none 0 0] 31) = w0 from hw0.symm)
  clear hb0 hR0 hP0 hw0
  have HB1 := Lib.hid (Below.refl w0.heap.size w0)
  cases hn : inB n 0 4
  · have hin : ∀ w, Calls Tryz.prog 93 #[.int .i64 n, .int .i64 0, .int .i64 4] w fun e w' => e = .returned (.bool false) ∧ w = w' := fun w => by have h := HQ.out n 0 4 w; rw [hn] at h; exact h
    have HIN := Lib.hid hin
    clear hin hn
    go_enter Tryz.func23, Tryz.ntmps23
    go_wp2_with fail
    rw [HW0.out]
    (with_reducible refine (HIN.out _).mono ?_)
    rintro e w' ⟨rfl, rfl⟩
    have hRW := (HB1.out.block w.heap.size (by omega)).trans HR0.out
    obtain ⟨z0, z1, z2, z3, z4, z5, f0, f1, f2, f3, f4, f5⟩ := row6f hRW
    clear hRW
    go_wp2_with fail
    have hf := fin6_of (X := zeroX) HB0.out HR0.out (by have := (Kept.of_below HB1.out (fun q => w.heap.size + 1 ≤ q)).size; omega) ((Kept.of_below HB1.out (fun q => w.heap.size + 1 ≤ q))) (zero_ob _ _)
    (try simp only [Exit.inBlock, Exit.then])
    refine bodyPost_ret (rcell2 rfl _ _ w.heap.size _ _ _ _ rfl hf.1 Tryz.underlying31 rfl (by kernel_rfl)) rfl ?_
    exact ⟨_, rfl, rfl, hf.2⟩
  obtain ⟨hn0, hn4⟩ := inB_true hn
  have hin : ∀ w, Calls Tryz.prog 93 #[.int .i64 n, .int .i64 0, .int .i64 4] w fun e w' => e = .returned (.bool true) ∧ w = w' := fun w => by have h := HQ.out n 0 4 w; rw [hn] at h; exact h
  have HIN := Lib.hid hin
  obtain ⟨m, rfl⟩ := Int.eq_ofNat_of_zero_le hn0
  clear hin hn
  go_enter Tryz.func23, Tryz.ntmps23
  go_wp2_with fail
  rw [HW0.out]
  (with_reducible refine (HIN.out _).mono ?_)
  rintro e w' ⟨rfl, rfl⟩
  go_wp2_with fail
  go_loopw [5] (fun i wr => ∃ (k : Nat) (sv : Value), k ≤ m ∧ i = .int .i64 k ∧ GT w0 (w.heap.size + 1) (w.heap.size + 1) (BX.cells (bI 1 nilV [] sv ((List.range k).map fun _ => (-1 : Int)) nilV [])) (bI 1 nilV [] sv ((List.range k).map fun _ => (-1 : Int)) nilV []) wr)
    (fun i _ => m - (intOf i).toNat)
  case atStart => exact ⟨0, nilV, Nat.zero_le _, rfl, gt_start HP0.out⟩
  obtain ⟨k, sv, hk, rfl, hG⟩ := hrel
  have hS := bI_S hG
  obtain ⟨AS, cS, rfl, hS⟩ := owns_form hS
  have hsz : w.heap.size + 1 ≤ wr.heap.size := by have := hG.k.size; omega
  have z2 := hG.cell (f := 2) (u := .slice AS k cS) rfl
  have HS := Lib.hid hS
  have HG := Lib.hid hG
  clear hS hG
  by_cases hlt : k < m
  · go_wp2_with (at_builtin; refine wpList_app el_intG rfl _ _ rfl (w.heap.size + 1) _ _ _ rfl HS.out [.int .i64 (-1)] rfl rfl rfl (one1 rfl) (by omega) hsz ?_; intro v2 w2 ho hk2 hm2; obtain ⟨Av, cv, rfl, ho⟩ := owns_form ho; have HGN := Lib.hid (HG.out.addS ho hk2 hm2); have z2 := HGN.out.cell (f := 2) (u := .slice AS k cS) rfl; have f2 := frozen_of_row w2 (w.heap.size + 1) 2 _ _ HGN.out.box; clear ho hk2 hm2)
    have HG2 := Lib.hid (HGN.out.put 2 (.slice Av (k + 1) cv))
    go_wp2_with fail
    go_roundw
    case rel => exact ⟨k + 1, _, by omega, by go_num, HG2.out⟩
    case measure => simp [intOf]; omega
  obtain rfl : m = k := by omega
  clear z2
  have x0 := HG.out.cell (f := 0) (u := .int .i64 1) rfl
  have x1 := HG.out.cell (f := 1) (u := .slice none 0 0) rfl
  have x2 := HG.out.cell (f := 2) (u := .slice AS m cS) rfl
  have x3 := HG.out.cell (f := 3) (u := .int .i64 0) rfl
  have x4 := HG.out.cell (f := 4) (u := .slice none 0 0) rfl
  have x5 := HG.out.cell (f := 5) (u := .slice none 0 0) rfl
  have hRW := (HG.out.k.block w.heap.size (by have := (Array.getElem?_eq_some_iff.1 HR0.out).1; exact this) (by omega)).trans HR0.out
  obtain ⟨z0, z1, z2, z3, z4, z5, f0, f1, f2, f3, f4, f5⟩ := row6f hRW
  clear hRW
  go_wp2_with fail
  have hf := fin6 HB0.out HR0.out (by omega) HG.out
  (try simp only [Exit.inBlock, Exit.then])
  refine bodyPost_ret (rcell2 rfl _ _ w.heap.size _ _ _ _ rfl hf.1 Tryz.underlying31 rfl (by kernel_rfl)) rfl ?_
  exact ⟨_, rfl, congrArg (fun l => Gr.mk 1 [] l 0 [] []) (show (List.range m).map (fun _ => (-1 : Int)) = List.replicate m (-1) from by rw [List.map_const', List.length_range]), hf.2⟩

/-- n numbers from k on. -/
def up (k : Int) (n : Nat) : List Int := (List.range n).map fun (i : Nat) => k + (i : Int)

def hasI (xs : List Int) (d : Int) : Bool := xs.contains d

theorem hasI_no {xs : List Int} {d : Int} (h : ∀ j, j < xs.length → (xs.getD j 0 == d) = false) : hasI xs d = false := by
  unfold hasI
  rw [← Bool.not_eq_true, List.contains_iff_mem]
  intro hm
  obtain ⟨j, hj, e⟩ := List.getElem_of_mem hm
  have := h j hj
  simp [List.getD, hj, e] at this
theorem hasI_yes {xs : List Int} {d : Int} {j : Nat} (h : j < xs.length) (e : (xs.getD j 0 == d) = true) : hasI xs d = true := by
  unfold hasI
  rw [List.contains_iff_mem]
  simp [List.getD, h] at e
  rw [← e]
  exact List.getElem_mem _

set_option maxHeartbeats 1000000 in
theorem l1Has_any (A : Option Addr) (c : Nat) (xs : List Int) (d : Int) (w : World) (hn : xs.length ≤ 16777216) (hA : Cells w A (ints xs)) :
    Calls Tryz.prog 183 #[.slice A xs.length c, .int .i64 d] w fun e w' => e = .returned (.bool (hasI xs d)) ∧ w = w' := by
  go_enter Tryz.func183, Tryz.ntmps183
  go_wp2
  go_loop [5] (fun i => ∃ k : Nat, k ≤ xs.length ∧ i = .int .i64 k ∧ ∀ j, j < k → (xs.getD j 0 == d) = false) (fun i => xs.length - (intOf i).toNat)
  case atStart => exact ⟨0, Nat.zero_le _, rfl, fun j hj => by omega⟩
  obtain ⟨k, hk, rfl, hall⟩ := hrel
  by_cases hlt : k < xs.length
  · obtain ⟨b, o, rfl, hc⟩ := hA.int hlt
    have c0 := hc k hlt
    have HALL := Lib.hid hall
    cases he : (xs.getD k 0 == d)
    · have HN := Lib.hid (show ∀ j, j < k + 1 → (xs.getD j 0 == d) = false from fun j hj => by
        rcases Nat.lt_succ_iff_lt_or_eq.1 hj with h' | h'
        · exact HALL.out j h'
        rw [h']; exact he)
      clear hc hA hall
      generalize xs.getD k 0 = y at *
      go_wp2_with fail
      go_round
      case rel => exact ⟨k + 1, by omega, by go_num, HN.out⟩
      case measure => simp [intOf]; omega
    have HY := Lib.hid (hasI_yes hlt he)
    clear hc hA hall
    generalize xs.getD k 0 = y at *
    have he2 : y = d := by simpa using he
    go_wp2_with fail
    go_ret
    exact ⟨by rw [HY.out]; rfl, rfl⟩
  obtain rfl : k = xs.length := by omega
  have HF := Lib.hid (hasI_no hall)
  clear hall
  go_wp2_with fail
  go_ret
  exact ⟨by rw [HF.out]; rfl, rfl⟩

end Go.Proofs.YtijkdpdmclkmlaaGreatDoor
