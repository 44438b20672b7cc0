/- Elements: the builders of both packages walked. -/
import Derived.Test.YtijkdpdmclkmlaaGreatDoorProg
import Derived.Test.YtijkdpdmclkmlaaGreatDoorJ30
import Derived.Test.YtijkdpdmclkmlaaGreatDoorJ31
import Derived.Test.YtijkdpdmclkmlaaGreatDoorJ19
import Derived.Test.YtijkdpdmclkmlaaGreatDoorJ33
import Derived.BigQuiet
set_option linter.unusedSimpArgs false
set_option linter.unusedVariables false
set_option linter.unusedSimpArgs false
namespace Go.Proofs.YtijkdpdmclkmlaaGreatDoor
open Go.RowKit

set_option maxRecDepth 100000 in
set_option maxHeartbeats 4000000 in
theorem l3Permutation_any (t : List Int) (A : Option Addr) (c : Nat) (w : World) (hn : t.length ≤ 1000) (hbd : ∀ x ∈ t, -1000000000 ≤ x ∧ x ≤ 1000000000) (hA : Cells w A (ints t)) :
  Calls Tryz.prog 102 #[.slice A t.length c] w fun e w' => ∃ X : BX, e = .returned (.agg X.cells) ∧ X.g = permG t ∧ RG w w' X := by
 have HA := Lib.hid (show ∀ W, Below w.heap.size w W → Cells W A (ints t) from fun W hb => hA.below hb)
 have HBD := Lib.hid (show ∀ k, k < t.length → -1000000000 ≤ t.getD k 0 ∧ t.getD k 0 ≤ 1000000000 from fun k hk => hbd _ (by simp [List.getD, hk]))
 obtain ⟨w0, hw0⟩ : ∃ w0, w0 = (w.alloc (.cells ZB 31)).alloc (.cells #[.int .i64 (t.length : Int), .slice none 0 0, .slice none 0 0, .int .i64 0, .slice none 0 0, .slice none 0 0] 31) := ⟨_, rfl⟩
 have hb0 : Below w.heap.size w w0 := by rw [hw0]; exact ((Below.refl _ _).alloc (Nat.le_refl _) _).alloc (by simp) _
 have hs0 : w0.heap.size = w.heap.size + 1 + 1 := by rw [hw0]; simp
 have hR0 : w0.heap[w.heap.size]? = some (.cells ZB 31) := by rw [hw0]; exact (heap_alloc_old _ _ (by simp)).trans (heap_alloc_new _ _)
 have hP0 : w0.heap[w.heap.size + 1]? = some (.cells #[.int .i64 (t.length : Int), .slice none 0 0, .slice none 0 0, .int .i64 0, .slice none 0 0, .slice none 0 0] 31) := by
  have h := heap_alloc_new (w.alloc (.cells ZB 31)) (.cells #[.int .i64 (t.length : Int), .slice none 0 0, .slice none 0 0, .int .i64 0, .slice none 0 0, .slice none 0 0] 31)
  rw [World.size_alloc] at h
  rw [hw0]; exact h
 have HB0 := Lib.hid hb0
 have HR0 := Lib.hid hR0
 have HP0 := Lib.hid hP0
 have HW0 := Lib.hid (show (w.alloc (.cells #[.int .i64 0, .slice none 0 0, .slice none 0 0, .int .i64 0, .slice none 0 0, .slice none 0 0] 31)).alloc (.cells #[.int .i64 (t.length : Int), .slice none 0 0, .slice none 0 0, .int .i64 0, .slice none 0 0, .slice none 0 0] 31) = w0 from hw0.symm)
 clear hb0 hR0 hP0 hw0
 clear hA hbd
 go_enter Tryz.func102, Tryz.ntmps102
 go_wp2_with fail
 rw [HW0.out]
 go_loopw [4] (fun i wr => ∃ (k : Nat) (sv : Value), k ≤ t.length ∧ i = .int .i64 k ∧ GT w0 (w.heap.size + 1) (w.heap.size + 1) (BX.cells (bI t.length nilV [] sv ((List.range k).map fun i => -1 - t.getD i 0) nilV [])) (bI t.length nilV [] sv ((List.range k).map fun i => -1 - t.getD i 0) nilV []) wr)
  (fun i _ => t.length - (intOf i).toNat)
 case atStart => exact ⟨0, nilV, Nat.zero_le _, rfl, gt_start HP0.out⟩
 case round =>
  obtain ⟨k, sv, hk, rfl, hG⟩ := hrel
  have hS := bI_S hG
  obtain ⟨AS, cS, rfl, hS⟩ := owns_form hS
  have hsz : w.heap.size + 1 ≤ wr.heap.size := by have := hG.k.size; omega
  have z2 := hG.cell (f := 2) (u := .slice AS k cS) rfl
  have HS := Lib.hid hS
  have HG := Lib.hid hG
  clear hS
  by_cases hlt : k < t.length
  ·have hkb := gt_below hG HB0.out (by omega)
   obtain ⟨b, o, rfl, hc⟩ := (HA.out wr hkb).int hlt
   have k0 := hc k hlt
   have hx := HBD.out k hlt
   obtain ⟨x, hxe⟩ : ∃ x, x = t.getD k 0 := ⟨_, rfl⟩
   rw [← hxe] at k0 hx
   have HXE := Lib.hid hxe
   clear hG hc hxe
   clear hkb
   have b0 : (0 : Int) ≤ (k : Int) := by omega
   have b1 : (k : Int) < (t.length : Int) := by omega
   go_wp2_with fail
   refine wp_region_ph (by kernel_rfl) [some 14, some 15, some 16, some 17, some 18, some 19, some 20, some 21, some 22, some 23, none] (fun q v => match q with | 0 => v = .pointer (some ⟨w.heap.size + 1, 2, none⟩) | 1 => v = .slice AS k cS | 2 => v = .slice (some ⟨b, o, none⟩) t.length c | 3 => v = .int .i64 (k : Int) | 4 => v = .pointer (some ⟨b, o + k, none⟩) | 5 => v = .int .i64 x | 6 => v = .int .i64 (-1 - x) | 7 => ∃ g, v = .slice (some ⟨g, 0, none⟩) 1 1 | 8 => True | 9 => v = .pointer (some ⟨w.heap.size + 1, 2, none⟩) | 10 => True | _ => True) (fun q v W => match q with | 0 => True | 1 => True | 2 => True | 3 => True | 4 => True | 5 => True | 6 => True | 7 => ∀ g, v = .slice (some ⟨g, 0, none⟩) 1 1 → 0 ≤ g ∧ W.heap[g]? = some (.cells #[.int .i64 (-1 - x)] 3) | 8 => True | 9 => True | 10 => True | _ => True) (fun W W' => Below W.heap.size W W') 8 10 (fun kk W => GT w0 (w.heap.size + 1) (w.heap.size + 1) (BX.cells (bI t.length nilV [] (.slice AS k cS) ((List.range k).map fun i => -1 - t.getD i 0) nilV [])) (bI t.length nilV [] (.slice AS k cS) ((List.range k).map fun i => -1 - t.getD i 0) nilV []) W) (fun v W => (∃ A2 c2, v = .slice A2 (k + 1) c2) ∧ GT w0 (w.heap.size + 1) (w.heap.size + 1) (BX.cells (bI t.length nilV [] (.slice AS k cS) ((List.range k).map fun i => -1 - t.getD i 0) nilV [])) (bI t.length nilV [] v ((List.range (k + 1)).map fun i => -1 - t.getD i 0) nilV []) W) (fun v W => (∃ A2 c2, v = .slice A2 (k + 1) c2) ∧ GT w0 (w.heap.size + 1) (w.heap.size + 1) (BX.cells (bI t.length nilV [] v ((List.range (k + 1)).map fun i => -1 - t.getD i 0) nilV [])) (bI t.length nilV [] v ((List.range (k + 1)).map fun i => -1 - t.getD i 0) nilV []) W) (by kernel_rfl) (by kernel_rfl) (by kernel_rfl) (by decide) (by decide) ?mono ?rst ?h0 ?step ?fin
   case mono => exact fun k k' W h hd => hd
   case rst =>
    intro q v W W' ht h
    match q, h with
    | 0, h => exact h
    | 1, h => exact h
    | 2, h => exact h
    | 3, h => exact h
    | 4, h => exact h
    | 5, h => exact h
    | 6, h => exact h
    | 7, h => exact fun g e => ⟨(h g e).1, (ht.block g (Array.getElem?_eq_some_iff.1 (h g e).2).1).trans (h g e).2⟩
    | 8, h => exact h
    | 9, h => exact h
    | 10, h => exact h
    | q + 11, _ => trivial
   case h0 => exact HG.out.drew
   case step =>
    as_aux_lemma =>
     intro L act W q oo hJ hL hA hS ho hd K3 hK3
     match q, ho with
     | 0, ho =>
      simp only [List.getElem?_toArray, List.getElem?_cons_zero, List.getElem?_cons_succ, Option.some.injEq] at ho
      subst ho
      have a3 : act.tmps[3]? = some (.pointer (some ⟨w.heap.size + 1, 0, none⟩)) := hJ.out 3 (by decide)
      clear hJ hd
      go_simp
      exact hK3 _ _ (.same (by decide) (by decide) rfl rfl (fun _ => trivial))
     | 1, ho =>
      simp only [List.getElem?_toArray, List.getElem?_cons_zero, List.getElem?_cons_succ, Option.some.injEq] at ho
      subst ho
      simp [Region.binds] at hd
      have l0 : L 0 = true := by simp [hd]
      have v0 : act.tmps[14]? = some (.pointer (some ⟨w.heap.size + 1, 2, none⟩)) := hJ.val l0 rfl (fun u h => h)
      have hn : L 8 = false := hA (by kernel_rfl)
      have hD := hJ.d hn
      have z2 := hD.cell (f := 2) (u := .slice AS k cS) rfl
      have HD := Lib.hid hD
      clear hD
      clear hJ hd
      go_simp
      exact hK3 _ _ (.same (by decide) (by decide) rfl rfl (fun _ => trivial))
     | 2, ho =>
      simp only [List.getElem?_toArray, List.getElem?_cons_zero, List.getElem?_cons_succ, Option.some.injEq] at ho
      subst ho
      have a0 : act.tmps[0]? = some (.slice (some ⟨b, o, none⟩) t.length c) := hJ.out 0 (by decide)
      clear hJ hd
      go_simp
      exact hK3 _ _ (.same (by decide) (by decide) rfl rfl (fun _ => trivial))
     | 3, ho =>
      simp only [List.getElem?_toArray, List.getElem?_cons_zero, List.getElem?_cons_succ, Option.some.injEq] at ho
      subst ho
      have a4 : act.tmps[4]? = some (.int .i64 (k : Int)) := hJ.out 4 (by decide)
      clear hJ hd
      go_simp
      exact hK3 _ _ (.same (by decide) (by decide) rfl rfl (fun _ => trivial))
     | 4, ho =>
      simp only [List.getElem?_toArray, List.getElem?_cons_zero, List.getElem?_cons_succ, Option.some.injEq] at ho
      subst ho
      simp [Region.binds] at hd
      have l2 : L 2 = true := by simp [hd]
      have v2 : act.tmps[16]? = some (.slice (some ⟨b, o, none⟩) t.length c) := hJ.val l2 rfl (fun u h => h)
      have l3 : L 3 = true := by simp [hd]
      have v3 : act.tmps[17]? = some (.int .i64 (k : Int)) := hJ.val l3 rfl (fun u h => h)
      clear hJ hd
      go_simp
      exact hK3 _ _ (.same (by decide) (by decide) rfl rfl (fun _ => trivial))
     | 5, ho =>
      simp only [List.getElem?_toArray, List.getElem?_cons_zero, List.getElem?_cons_succ, Option.some.injEq] at ho
      subst ho
      simp [Region.binds] at hd
      have l4 : L 4 = true := by simp [hd]
      have v4 : act.tmps[18]? = some (.pointer (some ⟨b, o + k, none⟩)) := hJ.val l4 rfl (fun u h => h)
      have hn : L 8 = false := hA (by kernel_rfl)
      have hD := hJ.d hn
      obtain ⟨b', o', e', hc'⟩ := (HA.out W (gt_below hD HB0.out (by omega))).int hlt
      cases e'
      have k0W := hc' k hlt
      rw [← HXE.out] at k0W
      clear hc'
      have HD := Lib.hid hD
      clear hD
      clear hJ hd
      go_simp
      exact hK3 _ _ (.same (by decide) (by decide) rfl rfl (fun _ => trivial))
     | 6, ho =>
      simp only [List.getElem?_toArray, List.getElem?_cons_zero, List.getElem?_cons_succ, Option.some.injEq] at ho
      subst ho
      simp [Region.binds] at hd
      have l5 : L 5 = true := by simp [hd]
      have v5 : act.tmps[19]? = some (.int .i64 x) := hJ.val l5 rfl (fun u h => h)
      have hwr := IntWalk.i64_in (-1 - x) (by omega)
      clear hJ hd
      go_simp
      exact hK3 _ _ (.same (by decide) (by decide) rfl rfl (fun _ => trivial))
     | 7, ho =>
      simp only [List.getElem?_toArray, List.getElem?_cons_zero, List.getElem?_cons_succ, Option.some.injEq] at ho
      subst ho
      simp [Region.binds] at hd
      have l6 : L 6 = true := by simp [hd]
      have v6 : act.tmps[20]? = some (.int .i64 (-1 - x)) := hJ.val l6 rfl (fun u h => h)
      have hn : L 8 = false := hA (by kernel_rfl)
      have hD := hJ.d hn
      have HD := Lib.hid hD
      clear hJ hd hD
      go_simp
      exact hK3 _ _ (.lay (by decide) (by decide) ⟨_, rfl⟩ hn ((Below.refl _ _).alloc (Nat.le_refl _) _) (fun g e => by injection e with e1; injection e1 with e2; injection e2 with e3; subst e3; exact ⟨Nat.zero_le _, heap_alloc_new _ _⟩) (HD.out.lay ((Below.refl _ _).alloc (Nat.le_refl _) _)))
     | 8, ho =>
      simp only [List.getElem?_toArray, List.getElem?_cons_zero, List.getElem?_cons_succ, Option.some.injEq] at ho
      subst ho
      simp [Region.binds] at hd
      have l1 : L 1 = true := by simp [hd]
      have v1 : act.tmps[15]? = some (.slice AS k cS) := hJ.val l1 rfl (fun u h => h)
      have l7 : L 7 = true := by simp [hd]
      obtain ⟨u7, v7, ⟨g, rfl⟩, hr7⟩ := hJ.has 7 21 l7 rfl
      have hn : L 8 = false := hA (by kernel_rfl)
      have hD := hJ.d hn
      obtain ⟨hg1, hg2⟩ := hr7 hn g rfl
      clear hJ hd
      refine step_appM el_intG rfl (.tmp 15) (.tmp 21) rfl (w.heap.size + 1) ((.slice AS k cS)) k (ints ((List.range k).map fun i => -1 - t.getD i 0)) (by simp [Act.eval, *]) (bI_S hD) ⟨g, 0, none⟩ 1 1 [.int .i64 (-1 - x)] (by simp [Act.eval, *]) (by decide) rfl (fun j' u' hj' => by rw [show (⟨g, 0, none⟩ : Addr).add j' = ⟨g, j', none⟩ from by simp [Addr.add, eq_comm], cell_of_row W g _ _ _ _ hg2]; simpa using hj') (one1 rfl) (by omega) (by have := hD.k.size; omega) ?_
      intro v' W' ho hk hm
      exact hK3 _ _ (.app rfl (by decide) trivial (⟨by obtain ⟨A2, c2, e, _⟩ := owns_form ho; exact ⟨A2, c2, e⟩, hD.addS (by rw [← HXE.out]; exact ho) hk hm⟩))
     | 9, ho =>
      simp only [List.getElem?_toArray, List.getElem?_cons_zero, List.getElem?_cons_succ, Option.some.injEq] at ho
      subst ho
      have a3 : act.tmps[3]? = some (.pointer (some ⟨w.heap.size + 1, 0, none⟩)) := hJ.out 3 (by decide)
      clear hJ hd
      go_simp
      exact hK3 _ _ (.same (by decide) (by decide) rfl rfl (fun _ => trivial))
     | 10, ho =>
      simp only [List.getElem?_toArray, List.getElem?_cons_zero, List.getElem?_cons_succ, Option.some.injEq] at ho
      subst ho
      simp [Region.binds] at hd
      have l9 : L 9 = true := by simp [hd]
      have v9 : act.tmps[23]? = some (.pointer (some ⟨w.heap.size + 1, 2, none⟩)) := hJ.val l9 rfl (fun u h => h)
      have l8 : L 8 = true := by simp [hd]
      obtain ⟨u, hu, hE⟩ := hJ.e l8 hL
      have v8 := hu 22 rfl
      clear hJ hd
      obtain ⟨⟨A2, c2, rfl⟩, hE⟩ := hE
      have z2 := hE.cell (f := 2) (u := .slice AS k cS) rfl
      have f2 := frozen_of_row W (w.heap.size + 1) 2 _ _ hE.box
      have HFF := Lib.hid ((⟨⟨A2, c2, rfl⟩, hE.put 2 _⟩ : (∃ A2 c2, _ = Value.slice A2 (k + 1) c2) ∧ GT w0 (w.heap.size + 1) (w.heap.size + 1) (BX.cells (bI t.length nilV [] (.slice A2 (k + 1) c2) ((List.range (k + 1)).map fun i => -1 - t.getD i 0) nilV [])) (bI t.length nilV [] (.slice A2 (k + 1) c2) ((List.range (k + 1)).map fun i => -1 - t.getD i 0) nilV []) _))
      clear hE
      go_simp
      exact hK3 undef _ (.store rfl (by decide) trivial _ hu HFF.out)
     | q + 11, ho => simp at ho
   case fin =>
    intro V W hF hV
    obtain ⟨v, hv, hF⟩ := hF
    have v8 : V 8 = v := hv 22 rfl
    have v0 : V 0 = .pointer (some ⟨w.heap.size + 1, 2, none⟩) := hV 0 14 rfl
    have v1 : V 1 = .slice AS k cS := hV 1 15 rfl
    have v2 : V 2 = .slice (some ⟨b, o, none⟩) t.length c := hV 2 16 rfl
    have v3 : V 3 = .int .i64 (k : Int) := hV 3 17 rfl
    have v4 : V 4 = .pointer (some ⟨b, o + k, none⟩) := hV 4 18 rfl
    have v5 : V 5 = .int .i64 x := hV 5 19 rfl
    have v6 : V 6 = .int .i64 (-1 - x) := hV 6 20 rfl
    obtain ⟨g7, v7⟩ : ∃ g, V 7 = .slice (some ⟨g, 0, none⟩) 1 1 := hV 7 21 rfl
    have v9 : V 9 = .pointer (some ⟨w.heap.size + 1, 2, none⟩) := hV 9 23 rfl
    clear hV hv
    simp only [layV, List.setIfInBounds_toArray, List.set_cons_zero, List.set_cons_succ, v0, v1, v2, v3, v4, v5, v6, v7, v9, v8]
    clear v0 v1 v2 v3 v4 v5 v6 v7 v9 v8
    obtain ⟨⟨A2, c2, rfl⟩, hG⟩ := hF
    have HG2 := Lib.hid hG
    clear hG
    go_wp2_with fail
    go_roundw
    case rel => exact ⟨k + 1, _, by omega, by go_num, HG2.out⟩
    case measure => simp [intOf]; omega
  ·obtain rfl : k = t.length := by omega
   clear hG z2
   have x0 := HG.out.cell (f := 0) (u := .int .i64 (t.length : Int)) rfl
   have x1 := HG.out.cell (f := 1) (u := .slice none 0 0) rfl
   have x2 := HG.out.cell (f := 2) (u := .slice AS t.length cS) rfl
   have x3 := HG.out.cell (f := 3) (u := .int .i64 0) rfl
   have x4 := HG.out.cell (f := 4) (u := .slice none 0 0) rfl
   have x5 := HG.out.cell (f := 5) (u := .slice none 0 0) rfl
   have hRW := (HG.out.k.block w.heap.size (by have := (Array.getElem?_eq_some_iff.1 HR0.out).1; exact this) (by omega)).trans HR0.out
   have z0 : World.cell? _ ⟨w.heap.size, 0, none⟩ = some (.int .i64 0) := cell_of_row _ _ 0 _ _ _ hRW
   have f0 := frozen_of_row _ _ 0 _ _ hRW
   have z1 : World.cell? _ ⟨w.heap.size, 1, none⟩ = some (.slice none 0 0) := cell_of_row _ _ 1 _ _ _ hRW
   have f1 := frozen_of_row _ _ 1 _ _ hRW
   have z2 : World.cell? _ ⟨w.heap.size, 2, none⟩ = some (.slice none 0 0) := cell_of_row _ _ 2 _ _ _ hRW
   have f2 := frozen_of_row _ _ 2 _ _ hRW
   have z3 : World.cell? _ ⟨w.heap.size, 3, none⟩ = some (.int .i64 0) := cell_of_row _ _ 3 _ _ _ hRW
   have f3 := frozen_of_row _ _ 3 _ _ hRW
   have z4 : World.cell? _ ⟨w.heap.size, 4, none⟩ = some (.slice none 0 0) := cell_of_row _ _ 4 _ _ _ hRW
   have f4 := frozen_of_row _ _ 4 _ _ hRW
   have z5 : World.cell? _ ⟨w.heap.size, 5, none⟩ = some (.slice none 0 0) := cell_of_row _ _ 5 _ _ _ hRW
   have f5 := frozen_of_row _ _ 5 _ _ hRW
   clear hRW
   go_wp2_with fail
   have hf := fin6 HB0.out HR0.out (by omega) HG.out
   (try simp only [Exit.inBlock, Exit.then])
   refine bodyPost_ret (results_cell_row rfl _ _ w.heap.size _ _ _ _ rfl hf.1 Tryz.underlying31 rfl (by kernel_rfl)) rfl ?_
   exact ⟨_, rfl, by show Gr.mk _ _ _ _ _ _ = permG t; unfold permG; rw [map_getD 0 (fun r => -1 - r) t]; rfl, hf.2⟩

end Go.Proofs.YtijkdpdmclkmlaaGreatDoor
