/- Elements of the reference: merges, ions, substitutions: walked. -/
import Derived.Test.YtijkdpdmclkmlaaGreatDoorProg
import Derived.Test.YtijkdpdmclkmlaaGreatDoorJ0
import Derived.Test.YtijkdpdmclkmlaaGreatDoorJ25
import Derived.Test.YtijkdpdmclkmlaaGreatDoorJ27
import Derived.BigQuiet
set_option linter.unusedSimpArgs false
set_option linter.unusedVariables false
set_option maxRecDepth 100000
set_option maxHeartbeats 16000000
namespace Go.Proofs.YtijkdpdmclkmlaaGreatDoor
open Go.RowKit
theorem l3Substitution_any (A B : Option Addr) (c d : Nat) (fr tos : List ByteArray) (w : World) (hl : fr.length ≤ 1000) (hlt' : tos.length = fr.length) (hA : Cells w A (strs fr)) (hB : Cells w B (strs tos)) :
    Calls Tryz.prog 123 #[.slice A fr.length c, .slice B tos.length d] w fun e w' => ∃ X : BX, e = .returned (.agg X.cells) ∧ X.g = subG fr tos (sortS tos) ∧ RG w w' X := by
  have HF := Lib.hid (show ∀ W, Below w.heap.size w W → Cells W A (strs fr) from fun W hb => hA.below hb)
  have HT := Lib.hid (show ∀ W, Below w.heap.size w W → Cells W B (strs tos) from fun W hb => hB.below hb)
  have HLT := Lib.hid hlt'
  obtain ⟨w0, hw0, hb0, hs0, hR0⟩ := laid1 w (.cells ZB 31)
  have HB0 := Lib.hid hb0
  have HR0 := Lib.hid hR0
  have HC := Lib.hid (l2Sorted_any B d tos w0 (by omega) (HT.out w0 hb0))
  have HW0 := Lib.hid (show w.alloc (.cells #[.int .i64 0, .slice none 0 0, .slice none 0 0, .int .i64 0, .slice none 0 0, .slice none 0 0] 31) = w0 from hw0.symm)
  clear hb0 hR0 hw0
  have hol := sortS_len tos
  have htl : tos.length ≤ 1000 := by omega
  clear hA hB hlt'
  go_enter Tryz.func123, Tryz.ntmps123
  go_wp2_with fail
  rw [HW0.out]
  (with_reducible refine HC.out.mono ?_)
  rintro e w1 ⟨go, co, rfl, hu, hb1⟩
  obtain ⟨outs, ho⟩ : ∃ outs, outs = sortS tos := ⟨_, rfl⟩
  rw [← ho] at hu hol
  rw [hs0] at hu hb1
  have HOUT := Lib.hid ho
  have HU := Lib.hid hu
  have HB1 := Lib.hid hb1
  have hs1 : w.heap.size + 1 ≤ w1.heap.size := by have := hb1.size; omega
  rw [← ho]
  clear hu hb1 HC ho
  go_wp2_with fail
  obtain ⟨wN, hwN⟩ : ∃ wN, wN = w1.alloc (.cells #[.int .i64 0, .slice none 0 0, .slice none 0 0, .int .i64 0, .slice (some ⟨go, 0, none⟩) outs.length co, .slice none 0 0] 31) := ⟨_, rfl⟩
  have hbN : Below (w.heap.size + 1) w0 wN := by rw [hwN]; exact HB1.out.alloc hs1 _
  have HBN := Lib.hid (HB0.out.trans (hbN.mono (Nat.le_succ _)))
  have HRN := Lib.hid ((hbN.block w.heap.size (Nat.lt_succ_self _)).trans HR0.out)
  have HG0 := Lib.hid (show GT wN (w.heap.size + 1) w1.heap.size (BX.cells (bI 0 (.slice (some ⟨go, 0, none⟩) outs.length co) outs nilV [] nilV ((List.range 0).map fun i : Nat => (fr.getD i default, atS outs (tos.getD i default))))) (bI 0 (.slice (some ⟨go, 0, none⟩) outs.length co) outs nilV [] nilV ((List.range 0).map fun i : Nat => (fr.getD i default, atS outs (tos.getD i default)))) wN from
    { k := Kept.refl _ _, box := by rw [hwN]; exact heap_alloc_new _ _
      ob := { N := { own := none_row, len := rfl, lk := fun i l x h => by simp [bI] at h, dis := fun i j l l' b _ h => by simp [bI] at h, sep := fun i l b h => by simp [bI] at h }, S := none_row, I := none_row
              O := by rw [hwN]; exact owns_below HU.out ((Below.refl _ _).alloc (Nat.le_refl _) _) (Nat.le_refl _) } })
  have hsN : w.heap.size + 1 ≤ wN.heap.size := by rw [hwN]; simp; omega
  have HWN := Lib.hid hwN
  clear hwN hbN
  rw [← HWN.out]
  go_loopw [7] (fun i wr => ∃ (j : Nat) (iv : Value), j ≤ fr.length ∧ i = .int .i64 j ∧ GT wN (w.heap.size + 1) w1.heap.size (BX.cells (bI 0 (.slice (some ⟨go, 0, none⟩) outs.length co) outs nilV [] iv ((List.range j).map fun i : Nat => (fr.getD i default, atS outs (tos.getD i default))))) (bI 0 (.slice (some ⟨go, 0, none⟩) outs.length co) outs nilV [] iv ((List.range j).map fun i : Nat => (fr.getD i default, atS outs (tos.getD i default)))) wr)
    (fun i _ => fr.length - (intOf i).toNat)
  case atStart => exact ⟨0, nilV, Nat.zero_le _, rfl, HG0.out⟩
  obtain ⟨j, iv, hj, rfl, hG⟩ := hrel
  have hI := bI_I hG
  obtain ⟨AI, cI, rfl, hI⟩ := owns_form hI
  have hsz : w.heap.size + 1 ≤ wr.heap.size := by have := hG.k.size; omega
  have z5 := hG.cell (f := 5) (u := .slice AI j cI) rfl
  have HI := Lib.hid hI
  have HG := Lib.hid hG
  clear hI
  by_cases hlt : j < fr.length
  · have hlt2 : j < tos.length := by have := HLT.out; omega
    have hkb := gt_below hG HBN.out (by omega)
    obtain ⟨b, o, rfl, hc⟩ := (HF.out wr hkb).str hlt
    obtain ⟨b2, o2, rfl, hc2⟩ := (HT.out wr hkb).str hlt2
    obtain ⟨s, hse⟩ : ∃ s, s = fr.getD j default := ⟨_, rfl⟩
    obtain ⟨s2, hse2⟩ : ∃ s2, s2 = tos.getD j default := ⟨_, rfl⟩
    have HSE := Lib.hid hse
    have HSE2 := Lib.hid hse2
    clear hc hc2 hse hse2 hG hkb
    have b0 : (0 : Int) ≤ (j : Int) := by omega
    have b1 : (j : Int) < (fr.length : Int) := by omega
    have b2' : (j : Int) < (tos.length : Int) := by omega
    go_wp2_with fail
    refine wp_region_ph (by kernel_rfl) [some 18, some 19, some 20, some 21, some 22, some 23, some 24, some 25, some 26, some 27, some 28, some 29, some 30, some 31, some 32, some 33, none] (fun q v => match q with | 0 => v = .pointer (some ⟨w1.heap.size, 5, none⟩) | 1 => v = .slice AI j cI | 2 => v = .slice (some ⟨b, o, none⟩) fr.length c | 3 => v = .int .i64 (j : Int) | 4 => v = .pointer (some ⟨b, o + j, none⟩) | 5 => v = .string s | 6 => v = .slice (some ⟨go, 0, none⟩) outs.length co | 7 => v = .slice (some ⟨b2, o2, none⟩) tos.length d | 8 => v = .int .i64 (j : Int) | 9 => v = .pointer (some ⟨b2, o2 + j, none⟩) | 10 => v = .string s2 | 11 => v = .int .i64 (atS outs s2) | 12 => v = .agg #[.string s, .int .i64 (atS outs s2)] | 13 => ∃ g, v = .slice (some ⟨g, 0, none⟩) 1 1 | 14 => True | 15 => v = .pointer (some ⟨w1.heap.size, 5, none⟩) | 16 => True | _ => True) (fun q v W => match q with | 0 => True | 1 => True | 2 => True | 3 => True | 4 => True | 5 => True | 6 => True | 7 => True | 8 => True | 9 => True | 10 => True | 11 => True | 12 => True | 13 => ∀ g, v = .slice (some ⟨g, 0, none⟩) 1 1 → 0 ≤ g ∧ W.heap[g]? = some (.cells #[.string s, .int .i64 (atS outs s2)] 90) | 14 => True | 15 => True | 16 => True | _ => True) (fun W W' => Below W.heap.size W W') 14 16 (fun kk W => GT wN (w.heap.size + 1) w1.heap.size (BX.cells (bI 0 (.slice (some ⟨go, 0, none⟩) outs.length co) outs nilV [] (.slice AI j cI) ((List.range j).map fun i : Nat => (fr.getD i default, atS outs (tos.getD i default))))) (bI 0 (.slice (some ⟨go, 0, none⟩) outs.length co) outs nilV [] (.slice AI j cI) ((List.range j).map fun i : Nat => (fr.getD i default, atS outs (tos.getD i default)))) W) (fun v W => (∃ A2 c2, v = .slice A2 (j + 1) c2) ∧ GT wN (w.heap.size + 1) w1.heap.size (BX.cells (bI 0 (.slice (some ⟨go, 0, none⟩) outs.length co) outs nilV [] (.slice AI j cI) ((List.range j).map fun i : Nat => (fr.getD i default, atS outs (tos.getD i default))))) (bI 0 (.slice (some ⟨go, 0, none⟩) outs.length co) outs nilV [] v ((List.range (j + 1)).map fun i : Nat => (fr.getD i default, atS outs (tos.getD i default)))) W) (fun v W => (∃ A2 c2, v = .slice A2 (j + 1) c2) ∧ GT wN (w.heap.size + 1) w1.heap.size (BX.cells (bI 0 (.slice (some ⟨go, 0, none⟩) outs.length co) outs nilV [] v ((List.range (j + 1)).map fun i : Nat => (fr.getD i default, atS outs (tos.getD i default))))) (bI 0 (.slice (some ⟨go, 0, none⟩) outs.length co) outs nilV [] v ((List.range (j + 1)).map fun i : Nat => (fr.getD i default, atS outs (tos.getD i default)))) W) (by kernel_rfl) (by kernel_rfl) (by kernel_rfl) (by decide) (by decide) ?m1o ?r1s ?h10 ?s1t ?f1i
    case m1o => exact fun k k' W h hd => hd
    case r1s =>
      intro q v W W' ht h
      match q, h with
      | 0, h | 1, h | 2, h | 3, h | 4, h | 5, h | 6, h | 7, h | 8, h | 9, h | 10, h | 11, h | 12, h | 14, h | 15, h | 16, h => exact h
      | 13, h => exact fun g e => ⟨(h g e).1, (ht.block g (Array.getElem?_eq_some_iff.1 (h g e).2).1).trans (h g e).2⟩
      | q + 17, _ => trivial
    case h10 => exact HG.out.drew
    case s1t =>
      as_aux_lemma =>
        intro L act W q oo hJ hL hA hS ho hd K3 hK3
        match q, ho with
        | 0, ho | 15, ho =>
          cases ho
          have a6 : act.tmps[6]? = some _ := hJ.out 6 (by decide)
          clear hJ hd
          go_simp
          exact hK3 _ _ (.same (by decide) (by decide) rfl rfl (fun _ => trivial))
        | 1, ho =>
          cases ho
          simp [Region.binds] at hd
          have v0 := hJ.val (by simp [hd] : L 0 = true) rfl fun _ h => h
          have hn : L 14 = false := hA (by kernel_rfl)
          have hD := hJ.d hn
          have z5 := hD.cell (f := 5) (u := .slice AI j cI) rfl
          have HD := Lib.hid hD
          clear hD hJ hd
          go_simp
          exact hK3 _ _ (.same (by decide) (by decide) rfl rfl (fun _ => trivial))
        | 2, ho =>
          cases ho
          have a0 : act.tmps[0]? = some _ := hJ.out 0 (by decide)
          clear hJ hd
          go_simp
          exact hK3 _ _ (.same (by decide) (by decide) rfl rfl (fun _ => trivial))
        | 3, ho | 8, ho =>
          cases ho
          have a7 : act.tmps[7]? = some _ := hJ.out 7 (by decide)
          clear hJ hd
          go_simp
          exact hK3 _ _ (.same (by decide) (by decide) rfl rfl (fun _ => trivial))
        | 4, ho =>
          cases ho
          simp [Region.binds] at hd
          have v2 := hJ.val (by simp [hd] : L 2 = true) rfl fun _ h => h
          have v3 := hJ.val (by simp [hd] : L 3 = true) rfl fun _ h => h
          clear hJ hd
          go_simp
          exact hK3 _ _ (.same (by decide) (by decide) rfl rfl (fun _ => trivial))
        | 5, ho =>
          cases ho
          simp [Region.binds] at hd
          have v4 := hJ.val (by simp [hd] : L 4 = true) rfl fun _ h => h
          have hn : L 14 = false := hA (by kernel_rfl)
          have hD := hJ.d hn
          obtain ⟨b', o', e', hc'⟩ := (HF.out W (gt_below hD HBN.out (by omega))).str hlt
          cases e'
          have k0W := hc' j hlt
          rw [← HSE.out] at k0W
          clear hc'
          have HD := Lib.hid hD
          clear hD hJ hd
          go_simp
          exact hK3 _ _ (.same (by decide) (by decide) rfl rfl (fun _ => trivial))
        | 6, ho =>
          cases ho
          have a5 : act.tmps[5]? = some _ := hJ.out 5 (by decide)
          clear hJ hd
          go_simp
          exact hK3 _ _ (.same (by decide) (by decide) rfl rfl (fun _ => trivial))
        | 7, ho =>
          cases ho
          have a1 : act.tmps[1]? = some _ := hJ.out 1 (by decide)
          clear hJ hd
          go_simp
          exact hK3 _ _ (.same (by decide) (by decide) rfl rfl (fun _ => trivial))
        | 9, ho =>
          cases ho
          simp [Region.binds] at hd
          have v7 := hJ.val (by simp [hd] : L 7 = true) rfl fun _ h => h
          have v8 := hJ.val (by simp [hd] : L 8 = true) rfl fun _ h => h
          clear hJ hd
          go_simp
          exact hK3 _ _ (.same (by decide) (by decide) rfl rfl (fun _ => trivial))
        | 10, ho =>
          cases ho
          simp [Region.binds] at hd
          have v9 := hJ.val (by simp [hd] : L 9 = true) rfl fun _ h => h
          have hn : L 14 = false := hA (by kernel_rfl)
          have hD := hJ.d hn
          obtain ⟨b', o', e', hc'⟩ := (HT.out W (gt_below hD HBN.out (by omega))).str hlt2
          cases e'
          have k0W := hc' j hlt2
          rw [← HSE2.out] at k0W
          clear hc'
          have HD := Lib.hid hD
          clear hD hJ hd
          go_simp
          exact hK3 _ _ (.same (by decide) (by decide) rfl rfl (fun _ => trivial))
        | 11, ho =>
          cases ho
          simp [Region.binds] at hd
          have v6 := hJ.val (by simp [hd] : L 6 = true) rfl fun _ h => h
          have v10 := hJ.val (by simp [hd] : L 10 = true) rfl fun _ h => h
          have hn : L 14 = false := hA (by kernel_rfl)
          have hD := hJ.d hn
          have HD := Lib.hid hD
          clear hJ hd hD
          go_simp
          go_at_call 196
          refine (l2At_any (some ⟨go, 0, none⟩) co outs s2 W (by omega) (Cells.of_owns HD.out.ob.O)).mono ?_
          rintro e W' ⟨rfl, hb⟩
          go_simp
          exact hK3 _ _ (.lay (by decide) (by decide) rfl hn (by first | exact Below.refl _ _ | (rw [hb]; exact Below.refl _ _)) trivial (by first | exact HD.out | (rw [hb]; exact HD.out)))
        | 12, ho =>
          cases ho
          simp [Region.binds] at hd
          have v5 := hJ.val (by simp [hd] : L 5 = true) rfl fun _ h => h
          have v11 := hJ.val (by simp [hd] : L 11 = true) rfl fun _ h => h
          clear hJ hd
          go_simp
          exact hK3 _ _ (.same (by decide) (by decide) rfl rfl (fun _ => trivial))
        | 13, ho =>
          cases ho
          simp [Region.binds] at hd
          have v12 := hJ.val (by simp [hd] : L 12 = true) rfl fun _ h => h
          have hn : L 14 = false := hA (by kernel_rfl)
          have hD := hJ.d hn
          have HD := Lib.hid hD
          clear hJ hd hD
          go_simp
          exact hK3 _ _ (.lay (by decide) (by decide) ⟨_, rfl⟩ hn ((Below.refl _ _).alloc (Nat.le_refl _) _) (fun g e => by injection e with e1; injection e1 with e2; injection e2 with e3; subst e3; exact ⟨Nat.zero_le _, heap_alloc_new _ _⟩) (HD.out.lay ((Below.refl _ _).alloc (Nat.le_refl _) _)))
        | 14, ho =>
          cases ho
          simp [Region.binds] at hd
          have v1 := hJ.val (by simp [hd] : L 1 = true) rfl fun _ h => h
          have l13 : L 13 = true := by simp [hd]
          obtain ⟨u13, v13, ⟨g, rfl⟩, hr13⟩ := hJ.has 13 31 l13 rfl
          have hn : L 14 = false := hA (by kernel_rfl)
          have hD := hJ.d hn
          obtain ⟨hg1, hg2⟩ := hr13 hn g rfl
          clear hJ hd
          refine step_appM el_wireG rfl (.tmp 19) (.tmp 31) rfl (w.heap.size + 1) ((.slice AI j cI)) j (((List.range j).map fun i : Nat => (fr.getD i default, atS outs (tos.getD i default))).flatMap encWi) (by simp [Act.eval, *]) (bI_I hD) ⟨g, 0, none⟩ 1 1 [.string s, .int .i64 (atS outs s2)] (by simp [Act.eval, *]) (by decide) rfl (fun j' u' hj' => by rw [show (⟨g, 0, none⟩ : Addr).add j' = ⟨g, j', none⟩ from by simp [Addr.add, eq_comm], cell_of_row W g _ _ _ _ hg2]; simpa using hj') (wi_one _ _) (by omega) (by have := hD.k.size; omega) ?_
          intro v' W' ho hk hm
          exact hK3 _ _ (.app rfl (by decide) trivial (⟨by obtain ⟨A2, c2, e, _⟩ := owns_form ho; exact ⟨A2, c2, e⟩, hD.addI (by rw [← HSE.out, ← HSE2.out]; exact ho) hk⟩))
        | 16, ho =>
          cases ho
          simp [Region.binds] at hd
          have v15 := hJ.val (by simp [hd] : L 15 = true) rfl fun _ h => h
          have l14 : L 14 = true := by simp [hd]
          obtain ⟨u, hu, hE⟩ := hJ.e l14 hL
          have v14 := hu 32 rfl
          clear hJ hd
          obtain ⟨⟨A2, c2, rfl⟩, hE⟩ := hE
          have z5 := hE.cell (f := 5) (u := .slice AI j cI) rfl
          have f5 := frozen_of_row W w1.heap.size 5 _ _ hE.box
          have HFF := Lib.hid ((⟨⟨A2, c2, rfl⟩, hE.put 5 _⟩ : (∃ A2 c2, _ = Value.slice A2 (j + 1) c2) ∧ GT wN (w.heap.size + 1) w1.heap.size (BX.cells (bI 0 (.slice (some ⟨go, 0, none⟩) outs.length co) outs nilV [] (.slice A2 (j + 1) c2) ((List.range (j + 1)).map fun i : Nat => (fr.getD i default, atS outs (tos.getD i default))))) (bI 0 (.slice (some ⟨go, 0, none⟩) outs.length co) outs nilV [] (.slice A2 (j + 1) c2) ((List.range (j + 1)).map fun i : Nat => (fr.getD i default, atS outs (tos.getD i default)))) _))
          clear hE
          go_simp
          exact hK3 undef _ (.store rfl (by decide) trivial _ hu HFF.out)
        | q + 17, ho => simp at ho
    intro V W hF hV
    obtain ⟨v, hv, hF⟩ := hF
    have v14 : V 14 = v := hv 32 rfl
    have v0 : V 0 = _ := hV 0 18 rfl
    have v1 : V 1 = _ := hV 1 19 rfl
    have v2 : V 2 = _ := hV 2 20 rfl
    have v3 : V 3 = _ := hV 3 21 rfl
    have v4 : V 4 = _ := hV 4 22 rfl
    have v5 : V 5 = _ := hV 5 23 rfl
    have v6 : V 6 = _ := hV 6 24 rfl
    have v7 : V 7 = _ := hV 7 25 rfl
    have v8 : V 8 = _ := hV 8 26 rfl
    have v9 : V 9 = _ := hV 9 27 rfl
    have v10 : V 10 = _ := hV 10 28 rfl
    have v11 : V 11 = _ := hV 11 29 rfl
    have v12 : V 12 = _ := hV 12 30 rfl
    obtain ⟨g13, v13⟩ : ∃ g, V 13 = .slice (some ⟨g, 0, none⟩) 1 1 := hV 13 31 rfl
    have v15 : V 15 = _ := hV 15 33 rfl
    clear hV hv
    simp only [layV, List.setIfInBounds_toArray, List.set_cons_zero, List.set_cons_succ, v0, v1, v2, v3, v4, v5, v6, v7, v8, v9, v10, v11, v12, v13, v15, v14]
    clear v0 v1 v2 v3 v4 v5 v6 v7 v8 v9 v10 v11 v12 v13 v15 v14
    obtain ⟨⟨A2, c2, rfl⟩, hG⟩ := hF
    have HG2 := Lib.hid hG
    clear hG
    go_wp2_with fail
    go_roundw
    case rel => exact ⟨j + 1, _, by omega, by go_num, HG2.out⟩
    case measure => simp [intOf]; omega
  obtain rfl : j = fr.length := by omega
  clear hG z5
  have x0 := HG.out.cell (f := 0) (u := .int .i64 0) rfl
  have x1 := HG.out.cell (f := 1) (u := .slice none 0 0) rfl
  have x2 := HG.out.cell (f := 2) (u := .slice none 0 0) rfl
  have x3 := HG.out.cell (f := 3) (u := .int .i64 0) rfl
  have x4 := HG.out.cell (f := 4) (u := .slice (some ⟨go, 0, none⟩) outs.length co) rfl
  have x5 := HG.out.cell (f := 5) (u := .slice AI fr.length cI) rfl
  have hRW := (HG.out.k.block w.heap.size (by have := (Array.getElem?_eq_some_iff.1 HRN.out).1; exact this) (by omega)).trans HRN.out
  obtain ⟨z0, z1, z2, z3, z4, z5, f0, f1, f2, f3, f4, f5⟩ := row6f hRW
  clear hRW
  go_wp2_with fail
  have hf := fin6 HBN.out HRN.out (by omega) HG.out
  (try simp only [Exit.inBlock, Exit.then])
  refine bodyPost_ret (results_cell_row rfl _ _ w.heap.size _ _ _ _ rfl hf.1 Tryz.underlying31 rfl (by kernel_rfl)) rfl ?_
  exact ⟨_, rfl, by rw [← HOUT.out]; rfl, hf.2⟩

end Go.Proofs.YtijkdpdmclkmlaaGreatDoor
