/- Elements: identities, both packages walked. -/
import Derived.Test.YtijkdpdmclkmlaaGreatDoorProg
import Derived.Test.YtijkdpdmclkmlaaGreatDoorJ0
import Derived.Test.YtijkdpdmclkmlaaGreatDoorJ24
import Derived.Test.YtijkdpdmclkmlaaGreatDoorJ16
import Derived.Test.YtijkdpdmclkmlaaGreatDoorJ11
import Derived.BigQuiet
set_option linter.unusedSimpArgs false
set_option linter.unusedVariables false
set_option maxRecDepth 100000
set_option maxHeartbeats 16000000
namespace Go.Proofs.YtijkdpdmclkmlaaGreatDoor
open Go.RowKit
theorem identity_any (n : Nat) (A : Option Addr) (c : Nat) (names : List ByteArray) (w : World) (hn : n ≤ 1000) (hl : names.length ≤ 1000) (hA : Cells w A (strs names)) :
    Calls Tryz.prog 92 #[.int .i64 (n : Int), .slice A names.length c] w fun e w' => ∃ X : BX, e = .returned (.agg X.cells) ∧ X.g = idG n names ∧ RG w w' X := by
  have HA := Lib.hid (show ∀ W, Below w.heap.size w W → Cells W A (strs names) from fun W hb => hA.below hb)
  obtain ⟨w0, hw0, hb0, hs0, hR0⟩ := laid1 w (.cells ZB 31)
  have HB0 := Lib.hid hb0
  have HR0 := Lib.hid hR0
  have HC := Lib.hid (cloneSG_any A c names w0 (by omega) (HA.out w0 hb0))
  have HW0 := Lib.hid (show w.alloc (.cells #[.int .i64 0, .slice none 0 0, .slice none 0 0, .int .i64 0, .slice none 0 0, .slice none 0 0] 31) = w0 from hw0.symm)
  clear hA hb0 hR0 hw0
  go_enter Tryz.func92, Tryz.ntmps92
  go_wp2_with fail
  rw [HW0.out]
  (with_reducible refine HC.out.mono ?_)
  rintro e w1 ⟨u, rfl, hu, hb1⟩
  rw [hs0] at hu hb1
  obtain ⟨AO, cO, rfl, hu⟩ := owns_form hu
  have HU := Lib.hid hu
  have HB1 := Lib.hid hb1
  clear hu hb1 HC
  go_wp2_with fail
  have hs1 : w.heap.size + 1 ≤ w1.heap.size := by have := HB1.out.size; omega
  obtain ⟨wN, hwN⟩ : ∃ wN, wN = w1.alloc (.cells #[.int .i64 (n : Int), .slice none 0 0, .slice none 0 0, .int .i64 0, .slice AO names.length cO, .slice none 0 0] 31) := ⟨_, rfl⟩
  have hbN : Below (w.heap.size + 1) w0 wN := by rw [hwN]; exact HB1.out.alloc hs1 _
  have HBN := Lib.hid (HB0.out.trans (hbN.mono (Nat.le_succ _)))
  have HRN := Lib.hid ((hbN.block w.heap.size (Nat.lt_succ_self _)).trans HR0.out)
  have HG0 := Lib.hid (show GT wN (w.heap.size + 1) w1.heap.size (BX.cells (bI (n : Int) (.slice AO names.length cO) names nilV ((List.range 0).map fun i : Nat => -1 - (i : Int)) nilV [])) (bI (n : Int) (.slice AO names.length cO) names nilV ((List.range 0).map fun i : Nat => -1 - (i : Int)) nilV []) wN from
    { k := Kept.refl _ _, box := by rw [hwN]; exact heap_alloc_new _ _
      ob := { N := { own := none_row, len := rfl, lk := fun i l x h => by simp [bI] at h, dis := fun i j l l' b _ h => by simp [bI] at h, sep := fun i l b h => by simp [bI] at h }, S := none_row, I := none_row
              O := by rw [hwN]; exact owns_below HU.out ((Below.refl _ _).alloc (Nat.le_refl _) _) (Nat.le_refl _) } })
  have hsN : w.heap.size + 1 ≤ wN.heap.size := by rw [hwN]; simp; omega
  have HWN := Lib.hid hwN
  clear hwN hbN
  rw [← HWN.out]
  go_loopw [14] (fun i wr => ∃ (k : Nat) (sv : Value), k ≤ n ∧ i = .int .i64 k ∧ GT wN (w.heap.size + 1) w1.heap.size (BX.cells (bI (n : Int) (.slice AO names.length cO) names sv ((List.range k).map fun i : Nat => -1 - (i : Int)) nilV [])) (bI (n : Int) (.slice AO names.length cO) names sv ((List.range k).map fun i : Nat => -1 - (i : Int)) nilV []) wr)
    (fun i _ => n - (intOf i).toNat)
  case atStart => exact ⟨0, nilV, Nat.zero_le _, rfl, HG0.out⟩
  obtain ⟨k, sv, hk, rfl, hG⟩ := hrel
  have hS := bI_S hG
  obtain ⟨AS, cS, rfl, hS⟩ := owns_form hS
  have hsz : w.heap.size + 1 ≤ wr.heap.size := by have := hG.k.size; omega
  have z2 := hG.cell (f := 2) (u := .slice AS k cS) rfl
  have HS := Lib.hid hS
  have HG := Lib.hid hG
  clear hS hG
  by_cases hlt : k < n
  · go_wp2_with (at_builtin; refine wpList_app el_intG rfl _ _ rfl (w.heap.size + 1) _ _ _ rfl HS.out [.int .i64 (-1 - (k : Int))] rfl rfl rfl (one1 rfl) (by omega) hsz ?_; intro v2 w2 ho hk2 hm2; obtain ⟨Av, cv, rfl, ho⟩ := owns_form ho; have HGN := Lib.hid (HG.out.addS ho hk2 hm2); have z2 := HGN.out.cell (f := 2) (u := .slice AS k cS) rfl; have f2 := frozen_of_row w2 w1.heap.size 2 _ _ HGN.out.box; clear ho hk2 hm2)
    have HG2 := Lib.hid (HGN.out.put 2 (.slice Av (k + 1) cv))
    go_wp2_with fail
    go_roundw
    case rel => exact ⟨k + 1, _, by omega, by go_num, HG2.out⟩
    case measure => simp [intOf]; omega
  obtain rfl : n = k := by omega
  clear z2
  go_wp2_with fail
  obtain ⟨wa', hwa'⟩ : ∃ wa', wa' = wr := ⟨_, rfl⟩
  subst hwa'
  go_loopw [27] (fun i wr => ∃ (j : Nat) (iv : Value), j ≤ names.length ∧ i = .int .i64 j ∧ GT wN (w.heap.size + 1) w1.heap.size (BX.cells (bI (n : Int) (.slice AO names.length cO) names (.slice AS n cS) ((List.range n).map fun i : Nat => -1 - (i : Int)) iv ((List.range j).map fun i : Nat => (names.getD i default, (i : Int))))) (bI (n : Int) (.slice AO names.length cO) names (.slice AS n cS) ((List.range n).map fun i : Nat => -1 - (i : Int)) iv ((List.range j).map fun i : Nat => (names.getD i default, (i : Int)))) wr)
    (fun i _ => names.length - (intOf i).toNat)
  case atStart => exact ⟨0, nilV, Nat.zero_le _, rfl, HG.out⟩
  obtain ⟨j, iv, hj, rfl, hG⟩ := hrel
  have hI := bI_I hG
  obtain ⟨AI, cI, rfl, hI⟩ := owns_form hI
  have hsz : w.heap.size + 1 ≤ wr.heap.size := by have := hG.k.size; omega
  have z5 := hG.cell (f := 5) (u := .slice AI j cI) rfl
  have HI := Lib.hid hI
  clear HG
  have HG := Lib.hid hG
  clear hI
  by_cases hlt : j < names.length
  · obtain ⟨b, o, rfl, hc⟩ := (HA.out wr (gt_below hG HBN.out (by omega))).str hlt
    have k0 := hc j hlt
    obtain ⟨s, hse⟩ : ∃ s, s = names.getD j default := ⟨_, rfl⟩
    rw [← hse] at k0
    have HSE := Lib.hid hse
    clear hc hse hG
    go_wp2_with (at_builtin; refine wpList_app el_wireG rfl _ _ rfl (w.heap.size + 1) _ _ _ rfl HI.out [.string s, .int .i64 ((j : Int))] rfl rfl rfl (wi_one _ _) (by omega) hsz ?_; intro v2 w2 ho hk2 hm2; obtain ⟨Av, cv, rfl, ho⟩ := owns_form ho; have HGN := Lib.hid (HG.out.addI (by rw [← HSE.out]; exact ho) hk2); have z5 := HGN.out.cell (f := 5) (u := .slice AI j cI) rfl; have f5 := frozen_of_row w2 w1.heap.size 5 _ _ HGN.out.box; clear ho hk2 hm2)
    have HG2 := Lib.hid (HGN.out.put 5 (.slice Av (j + 1) cv))
    go_wp2_with fail
    go_roundw
    case rel => exact ⟨j + 1, _, by omega, by go_num, HG2.out⟩
    case measure => simp [intOf]; omega
  obtain rfl : j = names.length := by omega
  clear hG z5
  have x0 := HG.out.cell (f := 0) (u := .int .i64 (n : Int)) rfl
  have x1 := HG.out.cell (f := 1) (u := .slice none 0 0) rfl
  have x2 := HG.out.cell (f := 2) (u := .slice AS n cS) rfl
  have x3 := HG.out.cell (f := 3) (u := .int .i64 0) rfl
  have x4 := HG.out.cell (f := 4) (u := .slice AO names.length cO) rfl
  have x5 := HG.out.cell (f := 5) (u := .slice AI names.length cI) rfl
  have hRW := (HG.out.k.block w.heap.size (by have := (Array.getElem?_eq_some_iff.1 HRN.out).1; exact this) (by omega)).trans HRN.out
  obtain ⟨z0, z1, z2, z3, z4, z5, f0, f1, f2, f3, f4, f5⟩ := row6f hRW
  clear hRW
  go_wp2_with fail
  have hf := fin6 HBN.out HRN.out (by omega) HG.out
  (try simp only [Exit.inBlock, Exit.then])
  refine bodyPost_ret (results_cell_row rfl _ _ w.heap.size _ _ _ _ rfl hf.1 Tryz.underlying31 rfl (by kernel_rfl)) rfl ?_
  exact ⟨_, rfl, rfl, hf.2⟩

theorem l3Identity_any (n : Nat) (A : Option Addr) (c : Nat) (names : List ByteArray) (w : World) (hn : n ≤ 1000) (hl : names.length ≤ 1000) (hA : Cells w A (strs names)) :
    Calls Tryz.prog 95 #[.int .i64 (n : Int), .slice A names.length c] w fun e w' => ∃ X : BX, e = .returned (.agg X.cells) ∧ X.g = idG n names ∧ RG w w' X := by
  have HA := Lib.hid (show ∀ W, Below w.heap.size w W → Cells W A (strs names) from fun W hb => hA.below hb)
  obtain ⟨w0, hw0, hb0, hs0, hR0⟩ := laid1 w (.cells ZB 31)
  have HB0 := Lib.hid hb0
  have HR0 := Lib.hid hR0
  obtain ⟨wa, hwa, hba, -⟩ := laid1 w0 (.cells #[] 9)
  have HOM := Lib.hid (show wa.ownsRow (w.heap.size + 1) 9 1 (.slice (some ⟨w.heap.size + 1, 0, none⟩) 0 0) 0 [] from by have h := made_rowG w0 9; rw [hs0] at h; rw [hwa]; exact h)
  have HAW := Lib.hid (HA.out wa (hb0.trans (hba.mono hb0.size)))
  have HBA := Lib.hid (show Below (w.heap.size + 1) w0 wa from by rw [← hs0]; exact hba)
  have hsa : w.heap.size + 1 ≤ wa.heap.size := by have := hba.size; omega
  have HW0 := Lib.hid (show (w.alloc (.cells #[.int .i64 0, .slice none 0 0, .slice none 0 0, .int .i64 0, .slice none 0 0, .slice none 0 0] 31)).alloc (.cells #[] 9) = wa from by rw [hwa, hw0]; rfl)
  clear hA hb0 hR0 hw0 hwa hba
  go_enter Tryz.func95, Tryz.ntmps95
  go_wp2_with (at_builtin; rw [HW0.out]; refine wpList_appC el_strG rfl _ _ rfl (w.heap.size + 1) _ 0 [] rfl HOM.out A names.length c (strs names) rfl (by simp) HAW.out (strs_one1 _) (by omega) hsa ?_; intro v2 w1 ho hk2 hm2; rw [List.nil_append, Nat.zero_add] at ho; have HB1 := Lib.hid (show Below (w.heap.size + 1) w0 w1 from HBA.out.trans (hk2.below (fun q hq => (HOM.out.lt q hq).1) hsa)); obtain ⟨AO, cO, rfl, hu⟩ := owns_form ho; have HU := Lib.hid hu; clear ho hk2 hm2 hu)
  have hs1 : w.heap.size + 1 ≤ w1.heap.size := by have := HB1.out.size; omega
  obtain ⟨wN, hwN⟩ : ∃ wN, wN = w1.alloc (.cells #[.int .i64 (n : Int), .slice none 0 0, .slice none 0 0, .int .i64 0, .slice AO names.length cO, .slice none 0 0] 31) := ⟨_, rfl⟩
  have hbN : Below (w.heap.size + 1) w0 wN := by rw [hwN]; exact HB1.out.alloc hs1 _
  have HBN := Lib.hid (HB0.out.trans (hbN.mono (Nat.le_succ _)))
  have HRN := Lib.hid ((hbN.block w.heap.size (Nat.lt_succ_self _)).trans HR0.out)
  have HG0 := Lib.hid (show GT wN (w.heap.size + 1) w1.heap.size (BX.cells (bI (n : Int) (.slice AO names.length cO) names nilV ((List.range 0).map fun i : Nat => -1 - (i : Int)) nilV [])) (bI (n : Int) (.slice AO names.length cO) names nilV ((List.range 0).map fun i : Nat => -1 - (i : Int)) nilV []) wN from
    { k := Kept.refl _ _, box := by rw [hwN]; exact heap_alloc_new _ _
      ob := { N := { own := none_row, len := rfl, lk := fun i l x h => by simp [bI] at h, dis := fun i j l l' b _ h => by simp [bI] at h, sep := fun i l b h => by simp [bI] at h }, S := none_row, I := none_row
              O := by rw [hwN]; exact owns_below HU.out ((Below.refl _ _).alloc (Nat.le_refl _) _) (Nat.le_refl _) } })
  have hsN : w.heap.size + 1 ≤ wN.heap.size := by rw [hwN]; simp; omega
  have HWN := Lib.hid hwN
  clear hwN hbN
  rw [← HWN.out]
  go_loopw [6] (fun i wr => ∃ (k : Nat) (sv : Value), k ≤ n ∧ i = .int .i64 k ∧ GT wN (w.heap.size + 1) w1.heap.size (BX.cells (bI (n : Int) (.slice AO names.length cO) names sv ((List.range k).map fun i : Nat => -1 - (i : Int)) nilV [])) (bI (n : Int) (.slice AO names.length cO) names sv ((List.range k).map fun i : Nat => -1 - (i : Int)) nilV []) wr)
    (fun i _ => n - (intOf i).toNat)
  case atStart => exact ⟨0, nilV, Nat.zero_le _, rfl, HG0.out⟩
  obtain ⟨k, sv, hk, rfl, hG⟩ := hrel
  have hS := bI_S hG
  obtain ⟨AS, cS, rfl, hS⟩ := owns_form hS
  have hsz : w.heap.size + 1 ≤ wr.heap.size := by have := hG.k.size; omega
  have z2 := hG.cell (f := 2) (u := .slice AS k cS) rfl
  have HS := Lib.hid hS
  have HG := Lib.hid hG
  clear hS hG
  by_cases hlt : k < n
  · go_wp2_with (at_builtin; refine wpList_app el_intG rfl _ _ rfl (w.heap.size + 1) _ _ _ rfl HS.out [.int .i64 (-1 - (k : Int))] rfl rfl rfl (one1 rfl) (by omega) hsz ?_; intro v2 w2 ho hk2 hm2; obtain ⟨Av, cv, rfl, ho⟩ := owns_form ho; have HGN := Lib.hid (HG.out.addS ho hk2 hm2); have z2 := HGN.out.cell (f := 2) (u := .slice AS k cS) rfl; have f2 := frozen_of_row w2 w1.heap.size 2 _ _ HGN.out.box; clear ho hk2 hm2)
    have HG2 := Lib.hid (HGN.out.put 2 (.slice Av (k + 1) cv))
    go_wp2_with fail
    go_roundw
    case rel => exact ⟨k + 1, _, by omega, by go_num, HG2.out⟩
    case measure => simp [intOf]; omega
  obtain rfl : n = k := by omega
  clear z2
  go_wp2_with fail
  obtain ⟨wa', hwa'⟩ : ∃ wa', wa' = wr := ⟨_, rfl⟩
  subst hwa'
  go_loopw [7] (fun i wr => ∃ (j : Nat) (iv : Value), j ≤ names.length ∧ i = .int .i64 j ∧ GT wN (w.heap.size + 1) w1.heap.size (BX.cells (bI (n : Int) (.slice AO names.length cO) names (.slice AS n cS) ((List.range n).map fun i : Nat => -1 - (i : Int)) iv ((List.range j).map fun i : Nat => (names.getD i default, (i : Int))))) (bI (n : Int) (.slice AO names.length cO) names (.slice AS n cS) ((List.range n).map fun i : Nat => -1 - (i : Int)) iv ((List.range j).map fun i : Nat => (names.getD i default, (i : Int)))) wr)
    (fun i _ => names.length - (intOf i).toNat)
  case atStart => exact ⟨0, nilV, Nat.zero_le _, rfl, HG.out⟩
  obtain ⟨j, iv, hj, rfl, hG⟩ := hrel
  have hI := bI_I hG
  obtain ⟨AI, cI, rfl, hI⟩ := owns_form hI
  have hsz : w.heap.size + 1 ≤ wr.heap.size := by have := hG.k.size; omega
  have z5 := hG.cell (f := 5) (u := .slice AI j cI) rfl
  have HI := Lib.hid hI
  clear HG
  have HG := Lib.hid hG
  clear hI
  by_cases hlt : j < names.length
  · obtain ⟨b, o, rfl, hc⟩ := (HA.out wr (gt_below hG HBN.out (by omega))).str hlt
    have k0 := hc j hlt
    obtain ⟨s, hse⟩ : ∃ s, s = names.getD j default := ⟨_, rfl⟩
    rw [← hse] at k0
    have HSE := Lib.hid hse
    clear hc hse hG
    have b0 : (0 : Int) ≤ (j : Int) := by omega
    have b1 : (j : Int) < (names.length : Int) := by omega
    go_wp2_with fail
    refine wp_region_ph (by kernel_rfl) [some 31, some 32, some 33, some 34, some 35, some 36, some 37, some 38, some 39, some 40, some 41, none] (fun q v => match q with | 0 => v = .pointer (some ⟨w1.heap.size, 5, none⟩) | 1 => v = .slice AI j cI | 2 => v = .slice (some ⟨b, o, none⟩) names.length c | 3 => v = .int .i64 (j : Int) | 4 => v = .pointer (some ⟨b, o + j, none⟩) | 5 => v = .string s | 6 => v = .int .i64 (j : Int) | 7 => v = .agg #[.string s, .int .i64 (j : Int)] | 8 => ∃ g, v = .slice (some ⟨g, 0, none⟩) 1 1 | 9 => True | 10 => v = .pointer (some ⟨w1.heap.size, 5, none⟩) | 11 => True | _ => True) (fun q v W => match q with | 0 => True | 1 => True | 2 => True | 3 => True | 4 => True | 5 => True | 6 => True | 7 => True | 8 => ∀ g, v = .slice (some ⟨g, 0, none⟩) 1 1 → 0 ≤ g ∧ W.heap[g]? = some (.cells #[.string s, .int .i64 (j : Int)] 90) | 9 => True | 10 => True | 11 => True | _ => True) (fun W W' => Below W.heap.size W W') 9 11 (fun kk W => GT wN (w.heap.size + 1) w1.heap.size (BX.cells (bI (n : Int) (.slice AO names.length cO) names (.slice AS n cS) ((List.range n).map fun i : Nat => -1 - (i : Int)) (.slice AI j cI) ((List.range j).map fun i : Nat => (names.getD i default, (i : Int))))) (bI (n : Int) (.slice AO names.length cO) names (.slice AS n cS) ((List.range n).map fun i : Nat => -1 - (i : Int)) (.slice AI j cI) ((List.range j).map fun i : Nat => (names.getD i default, (i : Int)))) W) (fun v W => (∃ A2 c2, v = .slice A2 (j + 1) c2) ∧ GT wN (w.heap.size + 1) w1.heap.size (BX.cells (bI (n : Int) (.slice AO names.length cO) names (.slice AS n cS) ((List.range n).map fun i : Nat => -1 - (i : Int)) (.slice AI j cI) ((List.range j).map fun i : Nat => (names.getD i default, (i : Int))))) (bI (n : Int) (.slice AO names.length cO) names (.slice AS n cS) ((List.range n).map fun i : Nat => -1 - (i : Int)) v ((List.range (j + 1)).map fun i : Nat => (names.getD i default, (i : Int)))) W) (fun v W => (∃ A2 c2, v = .slice A2 (j + 1) c2) ∧ GT wN (w.heap.size + 1) w1.heap.size (BX.cells (bI (n : Int) (.slice AO names.length cO) names (.slice AS n cS) ((List.range n).map fun i : Nat => -1 - (i : Int)) v ((List.range (j + 1)).map fun i : Nat => (names.getD i default, (i : Int))))) (bI (n : Int) (.slice AO names.length cO) names (.slice AS n cS) ((List.range n).map fun i : Nat => -1 - (i : Int)) v ((List.range (j + 1)).map fun i : Nat => (names.getD i default, (i : Int)))) W) (by kernel_rfl) (by kernel_rfl) (by kernel_rfl) (by decide) (by decide) ?m1o ?r1s ?h10 ?s1t ?f1i
    case m1o => exact fun k k' W h hd => hd
    case r1s =>
      intro q v W W' ht h
      match q, h with
      | 0, h | 1, h | 2, h | 3, h | 4, h | 5, h | 6, h | 7, h | 9, h | 10, h | 11, h => exact h
      | 8, h => exact fun g e => ⟨(h g e).1, (ht.block g (Array.getElem?_eq_some_iff.1 (h g e).2).1).trans (h g e).2⟩
      | q + 12, _ => trivial
    case h10 => exact HG.out.drew
    case s1t =>
      as_aux_lemma =>
        intro L act W q oo hJ hL hA hS ho hd K3 hK3
        match q, ho with
        | 0, ho | 10, ho =>
          cases ho
          have a5 : act.tmps[5]? = some _ := hJ.out 5 (by decide)
          clear hJ hd
          go_simp
          exact hK3 _ _ (.same (by decide) (by decide) rfl rfl (fun _ => trivial))
        | 1, ho =>
          cases ho
          simp [Region.binds] at hd
          have v0 := hJ.val (by simp [hd] : L 0 = true) rfl fun _ h => h
          have hn : L 9 = false := hA (by kernel_rfl)
          have hD := hJ.d hn
          have z5 := hD.cell (f := 5) (u := .slice AI j cI) rfl
          have HD := Lib.hid hD
          clear hD hJ hd
          go_simp
          exact hK3 _ _ (.same (by decide) (by decide) rfl rfl (fun _ => trivial))
        | 2, ho =>
          cases ho
          have a1 : act.tmps[1]? = some _ := hJ.out 1 (by decide)
          clear hJ hd
          go_simp
          exact hK3 _ _ (.same (by decide) (by decide) rfl rfl (fun _ => trivial))
        | 3, ho | 6, ho =>
          cases ho
          have a7 : act.tmps[7]? = some _ := hJ.out 7 (by decide)
          clear hJ hd
          go_simp
          exact hK3 _ _ (.same (by decide) (by decide) rfl rfl (fun _ => trivial))
        | 4, ho =>
          cases ho
          simp [Region.binds] at hd
          have v2 := hJ.val (by simp [hd] : L 2 = true) rfl fun _ h => h
          have v3 := hJ.val (by simp [hd] : L 3 = true) rfl fun _ h => h
          clear hJ hd
          go_simp
          exact hK3 _ _ (.same (by decide) (by decide) rfl rfl (fun _ => trivial))
        | 5, ho =>
          cases ho
          simp [Region.binds] at hd
          have v4 := hJ.val (by simp [hd] : L 4 = true) rfl fun _ h => h
          have hn : L 9 = false := hA (by kernel_rfl)
          have hD := hJ.d hn
          obtain ⟨b', o', e', hc'⟩ := (HA.out W (gt_below hD HBN.out (by omega))).str hlt
          cases e'
          have k0W := hc' j hlt
          rw [← HSE.out] at k0W
          clear hc'
          have HD := Lib.hid hD
          clear hD hJ hd
          go_simp
          exact hK3 _ _ (.same (by decide) (by decide) rfl rfl (fun _ => trivial))
        | 7, ho =>
          cases ho
          simp [Region.binds] at hd
          have v5 := hJ.val (by simp [hd] : L 5 = true) rfl fun _ h => h
          have v6 := hJ.val (by simp [hd] : L 6 = true) rfl fun _ h => h
          clear hJ hd
          go_simp
          exact hK3 _ _ (.same (by decide) (by decide) rfl rfl (fun _ => trivial))
        | 8, ho =>
          cases ho
          simp [Region.binds] at hd
          have v7 := hJ.val (by simp [hd] : L 7 = true) rfl fun _ h => h
          have hn : L 9 = false := hA (by kernel_rfl)
          have hD := hJ.d hn
          have HD := Lib.hid hD
          clear hJ hd hD
          go_simp
          exact hK3 _ _ (.lay (by decide) (by decide) ⟨_, rfl⟩ hn ((Below.refl _ _).alloc (Nat.le_refl _) _) (fun g e => by injection e with e1; injection e1 with e2; injection e2 with e3; subst e3; exact ⟨Nat.zero_le _, heap_alloc_new _ _⟩) (HD.out.lay ((Below.refl _ _).alloc (Nat.le_refl _) _)))
        | 9, ho =>
          cases ho
          simp [Region.binds] at hd
          have v1 := hJ.val (by simp [hd] : L 1 = true) rfl fun _ h => h
          have l8 : L 8 = true := by simp [hd]
          obtain ⟨u8, v8, ⟨g, rfl⟩, hr8⟩ := hJ.has 8 39 l8 rfl
          have hn : L 9 = false := hA (by kernel_rfl)
          have hD := hJ.d hn
          obtain ⟨hg1, hg2⟩ := hr8 hn g rfl
          clear hJ hd
          refine step_appM el_wireG rfl (.tmp 32) (.tmp 39) rfl (w.heap.size + 1) ((.slice AI j cI)) j (((List.range j).map fun i : Nat => (names.getD i default, (i : Int))).flatMap encWi) (by simp [Act.eval, *]) (bI_I hD) ⟨g, 0, none⟩ 1 1 [.string s, .int .i64 (j : Int)] (by simp [Act.eval, *]) (by decide) rfl (fun j' u' hj' => by rw [show (⟨g, 0, none⟩ : Addr).add j' = ⟨g, j', none⟩ from by simp [Addr.add, eq_comm], cell_of_row W g _ _ _ _ hg2]; simpa using hj') (wi_one _ _) (by omega) (by have := hD.k.size; omega) ?_
          intro v' W' ho hk hm
          exact hK3 _ _ (.app rfl (by decide) trivial (⟨by obtain ⟨A2, c2, e, _⟩ := owns_form ho; exact ⟨A2, c2, e⟩, hD.addI (by rw [← HSE.out]; exact ho) hk⟩))
        | 11, ho =>
          cases ho
          simp [Region.binds] at hd
          have v10 := hJ.val (by simp [hd] : L 10 = true) rfl fun _ h => h
          have l9 : L 9 = true := by simp [hd]
          obtain ⟨u, hu, hE⟩ := hJ.e l9 hL
          have v9 := hu 40 rfl
          clear hJ hd
          obtain ⟨⟨A2, c2, rfl⟩, hE⟩ := hE
          have z5 := hE.cell (f := 5) (u := .slice AI j cI) rfl
          have f5 := frozen_of_row W w1.heap.size 5 _ _ hE.box
          have HFF := Lib.hid ((⟨⟨A2, c2, rfl⟩, hE.put 5 _⟩ : (∃ A2 c2, _ = Value.slice A2 (j + 1) c2) ∧ GT wN (w.heap.size + 1) w1.heap.size (BX.cells (bI (n : Int) (.slice AO names.length cO) names (.slice AS n cS) ((List.range n).map fun i : Nat => -1 - (i : Int)) (.slice A2 (j + 1) c2) ((List.range (j + 1)).map fun i : Nat => (names.getD i default, (i : Int))))) (bI (n : Int) (.slice AO names.length cO) names (.slice AS n cS) ((List.range n).map fun i : Nat => -1 - (i : Int)) (.slice A2 (j + 1) c2) ((List.range (j + 1)).map fun i : Nat => (names.getD i default, (i : Int)))) _))
          clear hE
          go_simp
          exact hK3 undef _ (.store rfl (by decide) trivial _ hu HFF.out)
        | q + 12, ho => simp at ho
    intro V W hF hV
    obtain ⟨v, hv, hF⟩ := hF
    have v9 : V 9 = v := hv 40 rfl
    have v0 : V 0 = _ := hV 0 31 rfl
    have v1 : V 1 = _ := hV 1 32 rfl
    have v2 : V 2 = _ := hV 2 33 rfl
    have v3 : V 3 = _ := hV 3 34 rfl
    have v4 : V 4 = _ := hV 4 35 rfl
    have v5 : V 5 = _ := hV 5 36 rfl
    have v6 : V 6 = _ := hV 6 37 rfl
    have v7 : V 7 = _ := hV 7 38 rfl
    obtain ⟨g8, v8⟩ : ∃ g, V 8 = .slice (some ⟨g, 0, none⟩) 1 1 := hV 8 39 rfl
    have v10 : V 10 = _ := hV 10 41 rfl
    clear hV hv
    simp only [layV, List.setIfInBounds_toArray, List.set_cons_zero, List.set_cons_succ, v0, v1, v2, v3, v4, v5, v6, v7, v8, v10, v9]
    clear v0 v1 v2 v3 v4 v5 v6 v7 v8 v10 v9
    obtain ⟨⟨A2, c2, rfl⟩, hG⟩ := hF
    have HG2 := Lib.hid hG
    clear hG
    go_wp2_with fail
    go_roundw
    case rel => exact ⟨j + 1, _, by omega, by go_num, HG2.out⟩
    case measure => simp [intOf]; omega
  obtain rfl : j = names.length := by omega
  clear hG z5
  have x0 := HG.out.cell (f := 0) (u := .int .i64 (n : Int)) rfl
  have x1 := HG.out.cell (f := 1) (u := .slice none 0 0) rfl
  have x2 := HG.out.cell (f := 2) (u := .slice AS n cS) rfl
  have x3 := HG.out.cell (f := 3) (u := .int .i64 0) rfl
  have x4 := HG.out.cell (f := 4) (u := .slice AO names.length cO) rfl
  have x5 := HG.out.cell (f := 5) (u := .slice AI names.length cI) rfl
  have hRW := (HG.out.k.block w.heap.size (by have := (Array.getElem?_eq_some_iff.1 HRN.out).1; exact this) (by omega)).trans HRN.out
  obtain ⟨z0, z1, z2, z3, z4, z5, f0, f1, f2, f3, f4, f5⟩ := row6f hRW
  clear hRW
  go_wp2_with fail
  have hf := fin6 HBN.out HRN.out (by omega) HG.out
  (try simp only [Exit.inBlock, Exit.then])
  refine bodyPost_ret (results_cell_row rfl _ _ w.heap.size _ _ _ _ rfl hf.1 Tryz.underlying31 rfl (by kernel_rfl)) rfl ?_
  exact ⟨_, rfl, rfl, hf.2⟩

end Go.Proofs.YtijkdpdmclkmlaaGreatDoor
