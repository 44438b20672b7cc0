/- The program's inverse: walked. -/
import Derived.Test.YtijkdpdmclkmlaaGreatDoorProg
import Derived.Test.YtijkdpdmclkmlaaGreatDoorJ0
import Derived.Test.YtijkdpdmclkmlaaGreatDoorJ37
import Derived.Test.YtijkdpdmclkmlaaGreatDoorJ30
import Derived.Test.YtijkdpdmclkmlaaGreatDoorJ12
import Derived.BigQuiet
set_option linter.unusedSimpArgs false
set_option linter.unusedVariables false
set_option maxRecDepth 100000
set_option maxHeartbeats 16000000
namespace Go.Proofs.YtijkdpdmclkmlaaGreatDoor
open Go.RowKit
theorem implInverseOf_any (sig : List Ct) (g : Gr) (nv sv ov iv gv : Value) (w : World) (hs : SmallG g) (hz : SmallS sig) (hcap : CapOk gv) (hS : RSl RCt 3 w gv sig) (hG : RGr w nv sv ov iv g) :
    Calls Tryz.prog 69 #[gv, .agg #[.int .i64 g.roots, nv, sv, .int .i64 g.edges, ov, iv]] w fun e w' => ∃ X : BX, e = .returned (.tuple #[.agg X.cells, .bool (invB sig g)]) ∧ X.g = (if invB sig g then invI g else zeroG) ∧ RG w w' X := by
  have HG := Lib.hid (show ∀ W, Below w.heap.size w W → RGr W nv sv ov iv g from fun W hb => hG.below hb)
  have HS := Lib.hid (show ∀ W, Below w.heap.size w W → RSl RCt 3 W gv sig from fun W hb => hS.below RCt_keep hb)
  obtain ⟨AN, cN, AS, cS, AO, cO, AI, cI, rfl, rfl, rfl, rfl⟩ := hG.form
  obtain ⟨AG, cG, rfl, _⟩ := hS.form
  obtain ⟨w0, hw0, hb0, hs0, bx0, hR0⟩ := laid2 w (.cells #[.int .i64 g.roots, .slice AN g.nodes.length cN, .slice AS g.sites.length cS, .int .i64 g.edges, .slice AO g.outer.length cO, .slice AI g.inner.length cI] 31) (.cells #[.int .i64 0, .slice none 0 0, .slice none 0 0, .int .i64 0, .slice none 0 0, .slice none 0 0] 31)
  have HX := Lib.hid (keepB bx0)
  have HRR := Lib.hid (keepB hR0)
  have HB0 := Lib.hid hb0
  have HR0 := Lib.hid hR0
  have HW0 := Lib.hid hw0
  have HS0 := Lib.hid hs0
  have HSM := Lib.hid hs
  have HZS := Lib.hid hz
  have HCP := Lib.hid hcap
  have hns := hs.sites
  have hol := hs.outer
  have hil := hs.inner
  have hrb := hs.roots
  obtain ⟨x0, x1, x2, x3, x4, x5⟩ := row6 bx0
  rw [hw0] at x0 x1 x2 x3 x4 x5
  have HP0 := Lib.hid (implIsPermutation_any sig g _ _ _ _ _ w0 hs hz hcap (HS.out w0 hb0) (HG.out w0 hb0))
  have HIB := Lib.hid (show invB sig g = (permR sig g || renR sig g) from by
    rw [renR_alt, permR_eq]
    unfold invB
    cases goodG sig g <;> rfl)
  have HRF := Lib.hid (Below.refl w0.heap.size w0)
  clear hs hG hb0 bx0 hR0 hw0 hS hz hs0 hcap
  cases hp : permR sig g
  · cases hr : renR sig g
    · have HE := Lib.hid (show invB sig g = false from by rw [HIB.out, hp, hr]; rfl)
      rw [hp] at HP0
      have HRR1 := Lib.hid hr
      rw [HE.out]
      clear hp hr
      go_enter Tryz.func69, Tryz.ntmps69
      go_wp2_with fail
      rw [← HW0.out]
      (with_reducible refine HP0.out.mono ?_)
      rintro e w1 ⟨rfl, hb⟩
      have HB1 := Lib.hid hb
      clear x0 x1 x2 x3 x4 x5 HP0
      have bxr := HX.out w1 hb
      obtain ⟨x0, x1, x2, x3, x4, x5⟩ := row6 bxr
      have hs1 := hb.size
      have HR1 := implIsRenaming_any sig g _ _ _ _ _ w1 HSM.out HZS.out HCP.out (HS.out w1 (HB0.out.trans (hb.mono HB0.out.size))) (HG.out w1 (HB0.out.trans (hb.mono HB0.out.size)))
      rw [HRR1.out] at HR1
      have HRH := Lib.hid HR1
      clear bxr hb HR1
      go_wp2_with fail
      (with_reducible refine HRH.out.mono ?_)
      rintro e w2 ⟨rfl, hb⟩
      have HB2 := Lib.hid (HB1.out.trans (hb.mono hs1))
      have hs2 := HB2.out.size
      clear hb HRH x0 x1 x2 x3 x4 x5
      have hRW := HRR.out w2 HB2.out
      obtain ⟨z0, z1, z2, z3, z4, z5, f0, f1, f2, f3, f4, f5⟩ := row6f hRW
      clear hRW
      go_wp2_with fail
      have hsz0 := HS0.out
      have hf := fin6R (X := zeroX) (w.heap.size + 1) HB0.out (by omega) HR0.out (Kept.of_below HB2.out (fun q => w.heap.size + 1 + 1 ≤ q)) (zero_ob _ _)
      (try simp only [Exit.inBlock, Exit.then])
      refine bodyPost_ret (rcell2 rfl _ _ (w.heap.size + 1) _ _ _ _ rfl hf.1 Tryz.underlying31 rfl (by kernel_rfl)) rfl ?_
      exact ⟨_, rfl, rfl, hf.2⟩
    have HE := Lib.hid (show invB sig g = true from by rw [HIB.out, hp, hr]; rfl)
    have hgd : goodG sig g = true := by
      unfold renR openR wirR at hr
      simp only [Bool.and_eq_true] at hr
      exact hr.1.1.1
    have hgp := (good_iff sig g).1 hgd
    have hrp := ren_of hgp hr
    have hpb : permB g = false := by rw [permR_eq, hgd, Bool.true_and] at hp; exact hp
    have HIE := Lib.hid (show invI g = invIG g from by unfold invI; rw [hpb]; rfl)
    have HEP := Lib.hid (show ∀ i, i < g.outer.length → 0 < (endsG g (i : Int)).length from fun i hi => ends_pos hrp hi)
    rw [hp] at HP0
    have HRR1 := Lib.hid hr
    rw [HE.out]
    clear hp hr hgd hgp hrp hpb
    go_enter Tryz.func69, Tryz.ntmps69
    go_wp2_with fail
    rw [← HW0.out]
    (with_reducible refine HP0.out.mono ?_)
    rintro e w1 ⟨rfl, hb⟩
    have HB1 := Lib.hid hb
    clear x0 x1 x2 x3 x4 x5 HP0
    have bxr := HX.out w1 hb
    obtain ⟨x0, x1, x2, x3, x4, x5⟩ := row6 bxr
    have hs1 := hb.size
    have HR1 := implIsRenaming_any sig g _ _ _ _ _ w1 HSM.out HZS.out HCP.out (HS.out w1 (HB0.out.trans (hb.mono HB0.out.size))) (HG.out w1 (HB0.out.trans (hb.mono HB0.out.size)))
    rw [HRR1.out] at HR1
    have HRH := Lib.hid HR1
    clear bxr hb HR1
    go_wp2_with fail
    (with_reducible refine HRH.out.mono ?_)
    rintro e w2 ⟨rfl, hb⟩
    have HB2 := Lib.hid (HB1.out.trans (hb.mono hs1))
    clear hb HRH x0 x1 x2 x3 x4 x5
    have bxr := HX.out w2 HB2.out
    obtain ⟨x0, x1, x2, x3, x4, x5⟩ := row6 bxr
    have hs2 := HB2.out.size
    have HIN := Lib.hid (innerNames_any g _ _ _ _ w2 HSM.out (HG.out w2 (HB0.out.trans (HB2.out.mono HB0.out.size))))
    clear bxr
    go_wp2_with fail
    (with_reducible refine HIN.out.mono ?_)
    rintro e w3 ⟨r, rfl, hu, hb⟩
    obtain ⟨inn, hinn⟩ : ∃ inn, inn = innerN g := ⟨_, rfl⟩
    have hnl : inn.length = g.inner.length := by rw [hinn]; unfold innerN; rw [List.length_map]
    rw [← hinn, ← hnl] at hu
    obtain ⟨AO2, cO2, rfl, hu⟩ := owns_form hu
    have HB3 := Lib.hid (HB2.out.trans (hb.mono hs2))
    have hs3 := HB3.out.size
    have HU := Lib.hid (owns_mono hu hs2)
    have HINN := Lib.hid hinn
    obtain ⟨FF, hFF⟩ : ∃ FF : Nat → Wi, FF = fun i : Nat => (g.outer.getD i default, atS inn (fstE g i)) := ⟨_, rfl⟩
    have HFF := Lib.hid hFF
    clear hFF
    have hil2 : inn.length ≤ 1000 := by omega
    clear hb hu HIN hinn hnl x0 x1 x2 x3 x4 x5
    obtain ⟨wN, hwN, hbN, -⟩ := laid1 w3 (.cells #[.int .i64 0, .slice none 0 0, .slice none 0 0, .int .i64 0, .slice AO2 inn.length cO2, .slice none 0 0] 31)
    have HBN := Lib.hid (HB3.out.trans (hbN.mono hs3))
    have HG0 := Lib.hid (show GT wN w0.heap.size w3.heap.size (BX.cells (bI 0 (.slice AO2 inn.length cO2) inn nilV [] nilV ((List.range 0).map FF))) (bI 0 (.slice AO2 inn.length cO2) inn nilV [] nilV ((List.range 0).map FF)) wN from
      { k := Kept.refl _ _, box := by rw [hwN]; exact heap_alloc_new _ _
        ob := { N := { own := none_row, len := rfl, lk := fun i l x h => by simp [bI] at h, dis := fun i j l l' b _ h => by simp [bI] at h, sep := fun i l b h => by simp [bI] at h }, S := none_row, I := none_row
                O := owns_below HU.out hbN (Nat.le_refl _) } })
    have HWN := Lib.hid hwN
    have bxr := HX.out wN HBN.out
    obtain ⟨x0, x1, x2, x3, x4, x5⟩ := row6 bxr
    clear hwN hbN bxr
    go_wp2_with (rw [← HWN.out])
    go_loopw [46] (fun i wr => ∃ (j : Nat) (iv : Value), j ≤ g.outer.length ∧ i = .int .i64 j ∧ GT wN w0.heap.size w3.heap.size (BX.cells (bI 0 (.slice AO2 inn.length cO2) inn nilV [] iv ((List.range j).map FF))) (bI 0 (.slice AO2 inn.length cO2) inn nilV [] iv ((List.range j).map FF)) wr)
      (fun i _ => g.outer.length - (intOf i).toNat)
    case atStart => exact ⟨0, nilV, Nat.zero_le _, rfl, HG0.out⟩
    obtain ⟨j, iv, hj, rfl, hG⟩ := hrel
    have hI := bI_I hG
    obtain ⟨AJ, cJ, rfl, _⟩ := owns_form hI
    have HGT := Lib.hid hG
    have hbw : Below w0.heap.size w0 wr := below_kept HBN.out hG.k (fun q hq => by omega) HBN.out.size
    have HBW := Lib.hid hbw
    have hgw := HG.out wr (HB0.out.trans (hbw.mono HB0.out.size))
    have bxr := HX.out wr hbw
    clear hG hI hbw x0 x1 x2 x3 x4 x5
    obtain ⟨x0, x1, x2, x3, x4, x5⟩ := row6 bxr
    clear bxr
    by_cases hlt : j < g.outer.length
    · obtain ⟨A', c', eO, hcO⟩ := hgw.o
      cases eO
      obtain ⟨b, o, rfl, hc⟩ := hcO.str hlt
      have k0 := hc j hlt
      obtain ⟨s, hse⟩ : ∃ s, s = g.outer.getD j default := ⟨_, rfl⟩
      rw [← hse] at k0
      have HSE := Lib.hid hse
      have hep := HEP.out j hlt
      have HPO := Lib.hid (pointsOf_any g _ _ _ _ (j : Int) wr HSM.out hgw)
      have b0 : (0 : Int) ≤ (j : Int) := by omega
      have b1 : (j : Int) < (g.outer.length : Int) := by omega
      clear hc hcO hse hgw
      go_wp2_with fail
      (with_reducible refine HPO.out.mono ?_)
      rintro e w5 ⟨r, q, rfl, _, hq, hb5⟩
      obtain ⟨AQ, cQ, rfl, hq⟩ := owns_form hq
      obtain ⟨bq, oq, rfl, hcq⟩ := (Cells.of_owns hq).str hep
      have kq := hcq 0 hep
      rw [Nat.add_zero] at kq
      obtain ⟨y, hy⟩ : ∃ y, y = fstE g j := ⟨_, rfl⟩
      have kq2 : w5.cell? ⟨bq, oq, none⟩ = some (.string y) := by rw [hy]; exact kq
      obtain ⟨m, hm⟩ : ∃ m, m = (endsG g (j : Int)).length := ⟨_, rfl⟩
      rw [← hm] at hep ⊢
      have HYE := Lib.hid hy
      have HFJ := Lib.hid (show FF j = (s, atS inn y) from by rw [HFF.out, HSE.out, hy])
      have HNC := Lib.hid (show ∀ W, Below w5.heap.size w5 W → W.cell? ⟨bq, oq, none⟩ = some (.string y) from fun W hb => cell_below hb kq2 (lt_of_cell kq2))
      have HG5 := Lib.hid (HGT.out.lay hb5)
      have hb0' : (0 : Int) < (m : Int) := by omega
      clear hq hcq kq kq2 hb5 HPO k0 x0 x1 x2 x3 x4 x5 hy hm
      go_wp2_with fail
      refine wp_region_ph (by kernel_rfl) [some 57, some 58, some 59, some 60, some 61, some 62, some 63, some 64, some 65, some 66, some 67, some 68, some 69, none] (fun q v => match q with | 0 => v = .pointer (some ⟨w3.heap.size, 5, none⟩) | 1 => v = .slice AJ j cJ | 2 => v = .string s | 3 => v = .pointer (some ⟨w3.heap.size, 4, none⟩) | 4 => v = .slice AO2 inn.length cO2 | 5 => v = .slice (some ⟨bq, oq, none⟩) m cQ | 6 => v = .pointer (some ⟨bq, oq, none⟩) | 7 => v = .string y | 8 => v = .int .i64 (atS inn y) | 9 => v = .agg #[.string s, .int .i64 (atS inn y)] | 10 => ∃ g, v = .slice (some ⟨g, 0, none⟩) 1 1 | 11 => True | 12 => v = .pointer (some ⟨w3.heap.size, 5, none⟩) | 13 => True | _ => True) (fun q v W => match q with | 0 => True | 1 => True | 2 => True | 3 => True | 4 => True | 5 => True | 6 => True | 7 => True | 8 => True | 9 => True | 10 => ∀ g, v = .slice (some ⟨g, 0, none⟩) 1 1 → 0 ≤ g ∧ W.heap[g]? = some (.cells #[.string s, .int .i64 (atS inn y)] 90) | 11 => True | 12 => True | 13 => True | _ => True) (fun W W' => Below W.heap.size W W') 11 13 (fun kk W => GT wN w0.heap.size w3.heap.size (BX.cells (bI 0 (.slice AO2 inn.length cO2) inn nilV [] (.slice AJ j cJ) ((List.range j).map FF))) (bI 0 (.slice AO2 inn.length cO2) inn nilV [] (.slice AJ j cJ) ((List.range j).map FF)) W ∧ Below w5.heap.size w5 W) (fun v W => (∃ A2 c2, v = .slice A2 (j + 1) c2) ∧ GT wN w0.heap.size w3.heap.size (BX.cells (bI 0 (.slice AO2 inn.length cO2) inn nilV [] (.slice AJ j cJ) ((List.range j).map FF))) (bI 0 (.slice AO2 inn.length cO2) inn nilV [] v ((List.range (j + 1)).map FF)) W) (fun v W => (∃ A2 c2, v = .slice A2 (j + 1) c2) ∧ GT wN w0.heap.size w3.heap.size (BX.cells (bI 0 (.slice AO2 inn.length cO2) inn nilV [] v ((List.range (j + 1)).map FF))) (bI 0 (.slice AO2 inn.length cO2) inn nilV [] v ((List.range (j + 1)).map FF)) W) (by kernel_rfl) (by kernel_rfl) (by kernel_rfl) (by decide) (by decide) ?m1o ?r1s ?h10 ?s1t ?f1i
      case m1o => exact fun k k' W h hd => hd
      case r1s =>
        intro q v W W' ht h
        match q, h with
        | 0, h | 1, h | 2, h | 3, h | 4, h | 5, h | 6, h | 7, h | 8, h | 9, h | 11, h | 12, h | 13, h => exact h
        | 10, h => exact fun g e => ⟨(h g e).1, (ht.block g (Array.getElem?_eq_some_iff.1 (h g e).2).1).trans (h g e).2⟩
        | q + 14, _ => trivial
      case h10 => exact ⟨HG5.out.drew, (Below.refl _ _).drew⟩
      case s1t =>
        as_aux_lemma =>
          intro L act W q oo hJ hL hA hS ho hd K3 hK3
          match q, ho with
          | 0, ho | 3, ho | 12, ho =>
            cases ho
            have a9 : act.tmps[9]? = some _ := hJ.out 9 (by decide)
            clear hJ hd
            go_simp
            exact hK3 _ _ (.same (by decide) (by decide) rfl rfl (fun _ => trivial))
          | 1, ho =>
            cases ho
            simp [Region.binds] at hd
            have v0 := hJ.val (by simp [hd] : L 0 = true) rfl fun _ h => h
            have hn : L 11 = false := hA (by kernel_rfl)
            have hD := hJ.d hn
            have z5 := hD.1.cell (f := 5) (u := .slice AJ j cJ) rfl
            have HD := Lib.hid hD
            clear hD hJ hd
            go_simp
            exact hK3 _ _ (.same (by decide) (by decide) rfl rfl (fun _ => trivial))
          | 2, ho =>
            cases ho
            have a11 : act.tmps[11]? = some _ := hJ.out 11 (by decide)
            clear hJ hd
            go_simp
            exact hK3 _ _ (.same (by decide) (by decide) rfl rfl (fun _ => trivial))
          | 4, ho =>
            cases ho
            simp [Region.binds] at hd
            have v3 := hJ.val (by simp [hd] : L 3 = true) rfl fun _ h => h
            have hn : L 11 = false := hA (by kernel_rfl)
            have hD := hJ.d hn
            have z4 := hD.1.cell (f := 4) (u := .slice AO2 inn.length cO2) rfl
            have HD := Lib.hid hD
            clear hD hJ hd
            go_simp
            exact hK3 _ _ (.same (by decide) (by decide) rfl rfl (fun _ => trivial))
          | 5, ho =>
            cases ho
            have a13 : act.tmps[13]? = some _ := hJ.out 13 (by decide)
            clear hJ hd
            go_simp
            exact hK3 _ _ (.same (by decide) (by decide) rfl rfl (fun _ => trivial))
          | 6, ho =>
            cases ho
            simp [Region.binds] at hd
            have v5 := hJ.val (by simp [hd] : L 5 = true) rfl fun _ h => h
            clear hJ hd
            go_simp
            exact hK3 _ _ (.same (by decide) (by decide) rfl rfl (fun _ => trivial))
          | 7, ho =>
            cases ho
            simp [Region.binds] at hd
            have v6 := hJ.val (by simp [hd] : L 6 = true) rfl fun _ h => h
            have hn : L 11 = false := hA (by kernel_rfl)
            have hD := hJ.d hn
            have k0W := HNC.out W hD.2
            have HD := Lib.hid hD
            clear hD hJ hd
            go_simp
            exact hK3 _ _ (.same (by decide) (by decide) rfl rfl (fun _ => trivial))
          | 8, ho =>
            cases ho
            simp [Region.binds] at hd
            have v4 := hJ.val (by simp [hd] : L 4 = true) rfl fun _ h => h
            have v7 := hJ.val (by simp [hd] : L 7 = true) rfl fun _ h => h
            have hn : L 11 = false := hA (by kernel_rfl)
            have hD := hJ.d hn
            have HD := Lib.hid hD
            clear hJ hd hD
            go_simp
            go_at_call 121
            refine ((show Calls Tryz.prog 121 #[.slice AO2 inn.length cO2, .string y] W (fun e w' => e = .returned (.int .i64 (atS inn y)) ∧ W = w') from by have h := indexS_any AO2 cO2 inn y W (by omega) (Cells.of_owns HD.out.1.ob.O); rw [idx_atS] at h; exact h)).mono ?_
            rintro e W' ⟨rfl, hb⟩
            go_simp
            exact hK3 _ _ (.lay (by decide) (by decide) rfl hn (by subst hb; exact Below.refl _ _) trivial (by subst hb; exact HD.out))
          | 9, ho =>
            cases ho
            simp [Region.binds] at hd
            have v2 := hJ.val (by simp [hd] : L 2 = true) rfl fun _ h => h
            have v8 := hJ.val (by simp [hd] : L 8 = true) rfl fun _ h => h
            clear hJ hd
            go_simp
            exact hK3 _ _ (.same (by decide) (by decide) rfl rfl (fun _ => trivial))
          | 10, ho =>
            cases ho
            simp [Region.binds] at hd
            have v9 := hJ.val (by simp [hd] : L 9 = true) rfl fun _ h => h
            have hn : L 11 = false := hA (by kernel_rfl)
            have hD := hJ.d hn
            have HD := Lib.hid hD
            clear hJ hd hD
            go_simp
            exact hK3 _ _ (.lay (by decide) (by decide) ⟨_, rfl⟩ hn ((Below.refl _ _).alloc (Nat.le_refl _) _) (fun g e => by injection e with e1; injection e1 with e2; injection e2 with e3; subst e3; exact ⟨Nat.zero_le _, heap_alloc_new _ _⟩) (⟨HD.out.1.lay ((Below.refl _ _).alloc (Nat.le_refl _) _), HD.out.2.alloc HD.out.2.size _⟩))
          | 11, ho =>
            cases ho
            simp [Region.binds] at hd
            have v1 := hJ.val (by simp [hd] : L 1 = true) rfl fun _ h => h
            have l10 : L 10 = true := by simp [hd]
            obtain ⟨u10, v10, ⟨g, rfl⟩, hr10⟩ := hJ.has 10 67 l10 rfl
            have hn : L 11 = false := hA (by kernel_rfl)
            have hD := hJ.d hn
            obtain ⟨hg1, hg2⟩ := hr10 hn g rfl
            clear hJ hd
            refine step_appM el_wireG rfl (.tmp 58) (.tmp 67) rfl w0.heap.size ((.slice AJ j cJ)) j (((List.range j).map FF).flatMap encWi) (by simp [Act.eval, *]) (bI_I hD.1) ⟨g, 0, none⟩ 1 1 [.string s, .int .i64 (atS inn y)] (by simp [Act.eval, *]) (by decide) rfl (fun j' u' hj' => by rw [show (⟨g, 0, none⟩ : Addr).add j' = ⟨g, j', none⟩ from by simp [Addr.add, eq_comm], cell_of_row W g _ _ _ _ hg2]; simpa using hj') (wi_one _ _) (by omega) (by have := hD.1.k.size; have := HBN.out.size; omega) ?_
            intro v' W' ho hk hm
            exact hK3 _ _ (.app rfl (by decide) trivial (⟨by obtain ⟨A2, c2, e, _⟩ := owns_form ho; exact ⟨A2, c2, e⟩, hD.1.addI (by rw [HFJ.out]; exact ho) hk⟩))
          | 13, ho =>
            cases ho
            simp [Region.binds] at hd
            have v12 := hJ.val (by simp [hd] : L 12 = true) rfl fun _ h => h
            have l11 : L 11 = true := by simp [hd]
            obtain ⟨u, hu, hE⟩ := hJ.e l11 hL
            have v11 := hu 68 rfl
            clear hJ hd
            obtain ⟨⟨A2, c2, rfl⟩, hE⟩ := hE
            have z5 := hE.cell (f := 5) (u := .slice AJ j cJ) rfl
            have f5 := frozen_of_row W w3.heap.size 5 _ _ hE.box
            have HFF := Lib.hid ((⟨⟨A2, c2, rfl⟩, hE.put 5 _⟩ : (∃ A2 c2, _ = Value.slice A2 (j + 1) c2) ∧ GT wN w0.heap.size w3.heap.size (BX.cells (bI 0 (.slice AO2 inn.length cO2) inn nilV [] (.slice A2 (j + 1) c2) ((List.range (j + 1)).map FF))) (bI 0 (.slice AO2 inn.length cO2) inn nilV [] (.slice A2 (j + 1) c2) ((List.range (j + 1)).map FF)) _))
            clear hE
            go_simp
            exact hK3 undef _ (.store rfl (by decide) trivial _ hu HFF.out)
          | q + 14, ho => simp at ho
      intro V W hF hV
      obtain ⟨v, hv, hF⟩ := hF
      have v11 : V 11 = v := hv 68 rfl
      have v0 : V 0 = _ := hV 0 57 rfl
      have v1 : V 1 = _ := hV 1 58 rfl
      have v2 : V 2 = _ := hV 2 59 rfl
      have v3 : V 3 = _ := hV 3 60 rfl
      have v4 : V 4 = _ := hV 4 61 rfl
      have v5 : V 5 = _ := hV 5 62 rfl
      have v6 : V 6 = _ := hV 6 63 rfl
      have v7 : V 7 = _ := hV 7 64 rfl
      have v8 : V 8 = _ := hV 8 65 rfl
      have v9 : V 9 = _ := hV 9 66 rfl
      obtain ⟨g10, v10⟩ : ∃ g, V 10 = .slice (some ⟨g, 0, none⟩) 1 1 := hV 10 67 rfl
      have v12 : V 12 = _ := hV 12 69 rfl
      clear hV hv
      simp only [layV, List.setIfInBounds_toArray, List.set_cons_zero, List.set_cons_succ, v0, v1, v2, v3, v4, v5, v6, v7, v8, v9, v10, v12, v11]
      clear v0 v1 v2 v3 v4 v5 v6 v7 v8 v9 v10 v12 v11
      obtain ⟨⟨A2, c2, rfl⟩, hG⟩ := hF
      have HG2 := Lib.hid hG
      clear hG
      go_wp2_with fail
      go_roundw
      case rel => exact ⟨j + 1, _, by omega, by go_num, HG2.out⟩
      case measure => simp [intOf]; omega
    obtain rfl : j = g.outer.length := by omega
    clear hgw x0 x1 x2 x3 x4 x5
    have y0 := HGT.out.cell (f := 0) (u := .int .i64 0) rfl
    have y1 := HGT.out.cell (f := 1) (u := .slice none 0 0) rfl
    have y2 := HGT.out.cell (f := 2) (u := .slice none 0 0) rfl
    have y3 := HGT.out.cell (f := 3) (u := .int .i64 0) rfl
    have y4 := HGT.out.cell (f := 4) (u := .slice AO2 inn.length cO2) rfl
    have y5 := HGT.out.cell (f := 5) (u := .slice AJ g.outer.length cJ) rfl
    have hRW := HRR.out wr HBW.out
    obtain ⟨z0, z1, z2, z3, z4, z5, f0, f1, f2, f3, f4, f5⟩ := row6f hRW
    clear hRW
    go_wp2_with fail
    have hsz0 := HS0.out
    have hf := fin6R (X := (bI 0 (.slice AO2 inn.length cO2) inn nilV [] (.slice AJ g.outer.length cJ) ((List.range g.outer.length).map FF))) (w.heap.size + 1) HB0.out (by omega) HR0.out ((Kept.of_below HBN.out (fun q => w.heap.size + 1 + 1 ≤ q)).trans (HGT.out.k.mono fun q hq => by omega)) (HGT.out.ob.mono (by omega))
    (try simp only [Exit.inBlock, Exit.then])
    refine bodyPost_ret (rcell2 rfl _ _ (w.heap.size + 1) _ _ _ _ rfl hf.1 Tryz.underlying31 rfl (by kernel_rfl)) rfl ?_
    exact ⟨_, rfl, by rw [HIE.out, HFF.out, HINN.out]; rfl, hf.2⟩
  have HCP0 := Lib.hid hp
  have HE := Lib.hid (show invB sig g = true from by rw [HIB.out, hp]; rfl)
  have hpg : goodG sig g = true ∧ permB g = true := by rw [permR_eq, Bool.and_eq_true] at hp; exact hp
  have hgp := (good_iff sig g).1 hpg.1
  obtain ⟨n, hn⟩ := Int.eq_ofNat_of_zero_le hgp.r.1
  have ho := ord_undG hpg.2 hn
  have hn1 : n ≤ 1000 := by have := hgp.r.2; omega
  have HIE := Lib.hid (show invI g = permG (invL n (undG g)) from by unfold invI; rw [if_pos hpg.2, hn]; rfl)
  have hsl : g.sites.length = n := by have := ho.1; rw [und_len] at this; omega
  have HUA := Lib.hid (show ∀ k, k < n → ∃ j : Nat, j < n ∧ (undG g).getD k 0 = (j : Int) from fun k hk => by
    have h := ord_lt ho (List.mem_of_getElem? (getD_lt (d := 0) (show k < (undG g).length by rw [und_len]; omega)))
    exact ⟨((undG g).getD k 0).toNat, by omega, by omega⟩)
  have HUL := Lib.hid (show (undG g).length = n from by rw [und_len]; exact hsl)
  have HOI := Lib.hid (inv_ord ho)
  have HIL := Lib.hid (inv_len ho)
  have HSB := Lib.hid (sits_bound hgp)
  have HRN := Lib.hid hn
  rw [hp] at HP0
  rw [HE.out]
  clear hp hpg hgp ho hn hsl
  obtain ⟨i0, hi, hz0, hz1, hz2⟩ := info_parts info_int
  go_enter Tryz.func69, Tryz.ntmps69
  go_wp2_with fail
  rw [← HW0.out]
  (with_reducible refine HP0.out.mono ?_)
  rintro e w1 ⟨rfl, hb⟩
  have HB1 := Lib.hid hb
  clear x0 x1 x2 x3 x4 x5 HP0
  have bxr := HX.out w1 hb
  obtain ⟨x0, x1, x2, x3, x4, x5⟩ := row6 bxr
  rw [HRN.out] at x0
  have hs1 := hb.size
  clear bxr hb
  have hnp : (0 : Int) ≤ (n : Int) := by omega
  go_wp2_with (at_make; refine wpList_make_full _ rfl _ _ 28 rfl w0.heap.size 3 i0 _ 1 Tryz.underlying28 hi hz0 hz1 _ _ _ _ n rfl rfl rfl rfl (by rw [hz2]; omega) (by unfold maxLen; omega) hs1 ?_; intro w2 hown hgrow; have HOW := Lib.hid hown; have HGR := Lib.hid hgrow; clear hown hgrow x0 x1 x2 x3 x4 x5; have hb2 : Below w1.heap.size w1 w2 := (Below.refl _ _).grown HGR.out (Nat.le_refl _) (by simp); have bxr := HX.out w2 (HB1.out.trans (hb2.mono hs1)); have x0 := cell_of_row _ _ 0 _ _ _ bxr; have x1 := cell_of_row _ _ 1 _ _ _ bxr; have x2 := cell_of_row _ _ 2 _ _ _ bxr; have x3 := cell_of_row _ _ 3 _ _ _ bxr; have x4 := cell_of_row _ _ 4 _ _ _ bxr; have x5 := cell_of_row _ _ 5 _ _ _ bxr; have HB2 := Lib.hid hb2; have hs2 := hb2.size; clear bxr hb2)
  have HUN := Lib.hid (under_any g _ _ _ _ w2 HSM.out (HG.out w2 (HB0.out.trans ((HB1.out.trans (HB2.out.mono hs1)).mono HB0.out.size))) HSB.out)
  have hz : (madeCells (Value.int .i64 0).cells (n * 1)).toList = ints (invTo n (undG g) 0) := by
    rw [Nat.mul_one]
    show (madeCells #[_] _).toList = _
    rw [toList_madeCells_one]
    simp [ints, invTo]
  have hown := HOW.out
  rw [hz] at hown
  have HO2 := Lib.hid hown
  clear hz hown HOW HGR
  go_wp2_with fail
  (with_reducible refine HUN.out.mono ?_)
  rintro e w3 ⟨r, rfl, hu, hb3⟩
  obtain ⟨AU, cU, rfl, hu⟩ := owns_form hu
  rw [HUL.out] at hu ⊢
  have HU3 := Lib.hid hu
  have hlo := (HO2.out.lt _ rfl)
  have HO3 := Lib.hid (owns_below HO2.out hb3 (Nat.le_refl _))
  have HB3 := Lib.hid (HB1.out.trans (((HB2.out.mono (Nat.le_refl _)).trans (hb3.mono hs2)).mono hs1))
  have hs3 := hb3.size
  clear hu hb3 HUN x0 x1 x2 x3 x4 x5
  go_wp2_with fail
  go_loopw [24] (fun i wr => ∃ k : Nat, k ≤ n ∧ i = .int .i64 k ∧ wr.ownsRow w0.heap.size 3 1 (.slice (some ⟨w1.heap.size, 0, none⟩) n n) n (ints (invTo n (undG g) k)) ∧ Kept (fun q => q = w1.heap.size) w3 wr)
    (fun i _ => n - (intOf i).toNat)
  case atStart => exact ⟨0, Nat.zero_le _, rfl, HO3.out, Kept.refl _ _⟩
  obtain ⟨k, hk, rfl, hown, hkp⟩ := hrel
  by_cases hlt : k < n
  · have hcu := Cells.of_owns (ownsK HU3.out hkp (fun g hg e => by have := (HU3.out.lt g hg).1; omega))
    obtain ⟨b, o, rfl, hc⟩ := hcu.int (show k < (undG g).length by rw [HUL.out]; exact hlt)
    have k0 := hc k (by rw [HUL.out]; exact hlt)
    obtain ⟨j, hj, hju⟩ := HUA.out k hlt
    have hg : wr.cell? ⟨w1.heap.size, j, none⟩ = some ((ints (invTo n (undG g) k))[j]'(by simp [ints, invTo_len]; omega)) := by
      rw [hown.cellAt j (by omega)]
      exact List.getElem?_eq_getElem _
    have hf := hown.frozenAt j
    have hst := (hown.stored j (.int .i64 (k : Int))).1
    rw [invTo_next n _ k j hju] at hst
    have HS1 := Lib.hid hst
    have HK1 := Lib.hid (hkp.setCell (p := ⟨w1.heap.size, j, none⟩) rfl (.int .i64 (k : Int)))
    rw [hju] at k0
    clear hst hown hkp hc hcu hju
    generalize (ints (invTo n (undG g) k))[j]'_ = y at hg
    have hj0 : (0 : Int) ≤ (j : Int) := by omega
    have hjn : (j : Int) < (n : Int) := by omega
    have hkn : (k : Int) < (n : Int) := by omega
    have hk00 : (0 : Int) ≤ (k : Int) := by omega
    go_wp2_with fail
    go_roundw
    case rel => exact ⟨k + 1, by omega, by go_num, HS1.out, HK1.out⟩
    case measure => simp [intOf]; omega
  obtain rfl : k = n := by omega
  have hown2 := hown
  rw [invTo_all] at hown2
  have HCL := permutation_any (invL k (undG g)) (some ⟨w1.heap.size, 0, none⟩) k wr (by rw [HIL.out]; omega) (fun x hx => by have := ord_lt HOI.out hx; omega) (by have h := Cells.of_owns hown2; exact h)
  rw [HIL.out] at HCL
  have HCA := Lib.hid HCL
  have HBW := Lib.hid (below_kept HB3.out hkp (fun q hq => by omega) (by omega))
  clear hown hown2 HCL hkp
  go_wp2_with fail
  (with_reducible refine HCA.out.mono ?_)
  rintro e w2 ⟨X, rfl, hXg, hr⟩
  obtain ⟨xr, xe, xnv, xsv, xov, xiv, xns, xls, xss, xos, xis⟩ := X
  obtain ⟨YN, dN, YS, dS, YO, dO, YI, dI, e1, e2, e3, e4⟩ := hr.ob.form
  dsimp only at e1 e2 e3 e4
  subst e1 e2 e3 e4
  have HXG := Lib.hid hXg
  have HB2 := Lib.hid (HBW.out.trans (hr.bel.mono HBW.out.size))
  have hsw := HBW.out.size
  have hs2 := hr.bel.size
  have HR := Lib.hid hr
  clear hXg hr HCA
  simp only [BX.cells]
  have hRW := HRR.out w2 HB2.out
  obtain ⟨z0, z1, z2, z3, z4, z5, f0, f1, f2, f3, f4, f5⟩ := row6f hRW
  clear hRW
  go_wp2_with fail
  have hsz0 := HS0.out
  have hf := fin6R (X := ⟨xr, xe, .slice YN xns.length dN, .slice YS xss.length dS, .slice YO xos.length dO, .slice YI xis.length dI, xns, xls, xss, xos, xis⟩) (w.heap.size + 1) HB0.out (by omega) HR0.out (Kept.of_below HB2.out (fun q => (w.heap.size + 1) + 1 ≤ q)) (HR.out.ob.mono (by omega))
  (try simp only [Exit.inBlock, Exit.then])
  refine bodyPost_ret (rcell2 rfl _ _ (w.heap.size + 1) _ _ _ _ rfl hf.1 Tryz.underlying31 rfl (by kernel_rfl)) rfl ?_
  exact ⟨_, rfl, (by rw [HIE.out]; exact HXG.out), hf.2⟩

end Go.Proofs.YtijkdpdmclkmlaaGreatDoor
