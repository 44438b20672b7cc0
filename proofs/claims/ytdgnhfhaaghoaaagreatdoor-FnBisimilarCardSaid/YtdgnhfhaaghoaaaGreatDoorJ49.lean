/- The law of bisimilarity over drawn systems, walked: bisimilarity is a bisimulation, bisimilar states are weakly bisimilar and simulated by each other, and no bisimulation relates others. -/
import Derived.Test.YtdgnhfhaaghoaaaGreatDoorProg
import Derived.Test.YtdgnhfhaaghoaaaGreatDoorJ33
import Derived.Test.YtdgnhfhaaghoaaaGreatDoorJ35
import Derived.Test.YtdgnhfhaaghoaaaGreatDoorJ36
import Derived.Test.YtdgnhfhaaghoaaaGreatDoorJ2
import Derived.Test.YtdgnhfhaaghoaaaGreatDoorJ3
import Derived.Test.YtdgnhfhaaghoaaaGreatDoorJ23
import Derived.Test.YtdgnhfhaaghoaaaGreatDoorJ48
import Derived.BigQuiet
set_option linter.unusedSimpArgs false
set_option linter.unusedVariables false
namespace Go.Proofs.YtdgnhfhaaghoaaaGreatDoor
open Go.RowKit

set_option maxRecDepth 100000 in
set_option maxHeartbeats 32000000 in
theorem lawFnBisimilar (A : Option Addr) (bs : List Int) (c : Nat) (w : World) (hA : Cells w A (u8s bs)) (hrng : ∀ x ∈ bs, 0 ≤ x ∧ x < 256) (hlen : bs.length ≤ maxLen) (hcap : bs.length ≤ c) :
  Calls Tryz.prog 8 #[.slice A bs.length c] w fun e w' => e = .returned (.bool true) ∧ Below w.heap.size w w' := by
 have HB := Lib.hid (vBig_any A bs.length c w hlen)
 by_cases hbig : 65536 < bs.length
 ·rw [show decide (65536 < bs.length) = true from by simp [hbig]] at HB
  clear hbig hlen hA hrng
  go_enter Tryz.func8, Tryz.ntmps8
  go_wp2_with fail
  (with_reducible refine HB.out.mono ?_)
  rintro e w1 ⟨rfl, rfl⟩
  go_wp2_with fail
  go_ret
  exact ⟨rfl, Below.refl _ _⟩
 rw [show decide (65536 < bs.length) = false from by simp [hbig]] at HB
 have hb64 : bs.length ≤ 65536 := by omega
 clear hbig hlen
 have HA := Lib.hid hA
 have HRNG := Lib.hid hrng
 clear hA hrng
 have HT := Lib.hid (Below.refl w.heap.size w)
 have hs : w.heap.size ≤ w.heap.size := Nat.le_refl _
 go_enter Tryz.func8, Tryz.ntmps8
 go_wp2_with fail
 (with_reducible refine HB.out.mono ?_)
 rintro e w' ⟨rfl, rfl⟩
 clear HB
 go_wp2_with fail
 (with_reducible refine (drawBisimilarOf_any A bs c w HA.out HRNG.out (by omega)).mono ?_)
 rintro e w1 ⟨u, v, rfl, hD, hb⟩
 obtain ⟨l, AU, cU, AT, cT, hsm, hz, rfl, rfl, hR⟩ := hD.open_
 clear hD
 replace HA := Lib.hid (HA.out.below hb)
 replace HT := Lib.hid (HT.out.trans (hb.mono hs))
 clear hs
 have hs := HT.out.size
 clear hb
 obtain ⟨w2, hw⟩ : ∃ W, W = w1.alloc (.cells #[.slice AU l.shows.length cU, .slice AT l.steps.length cT] 27) := ⟨_, rfl⟩
 have hb := below_new hw
 have h0 := At.new hw hR
 have HL := Lib.hid h0
 clear h0
 have hzw2 : w2.heap.size = w1.heap.size + 1 := by rw [hw]; simp
 replace HA := Lib.hid (HA.out.below hb)
 replace HT := Lib.hid (HT.out.trans (hb.mono hs))
 clear hs
 have hs := HT.out.size
 have HWw2 := Lib.hid hw
 clear hb hw
 clear hR
 go_wp2_with fail
 rw [← HWw2.out]
 (with_reducible refine (implBisimilarOf_any _ l _ hsm HL.out.r).mono ?_)
 rintro e w3 ⟨r, rfl, hr, hb⟩
 obtain ⟨AS, cS, rfl, hr⟩ := owns_form hr
 have hS := Cells.of_owns hr
 clear hr
 replace HA := Lib.hid (HA.out.below hb)
 replace HL := Lib.hid (HL.out.below hb)
 replace HT := Lib.hid (HT.out.trans (hb.mono hs))
 clear hs
 have hs := HT.out.size
 clear hb
 have HhS := Lib.hid hS
 clear hS
 obtain ⟨c0_0, c0_1⟩ := HL.out.cells
 go_wp2_with fail
 clear c0_0 c0_1
 (with_reducible refine (specBisimilarOf_any _ l _ hsm HL.out.r).mono ?_)
 rintro e w4 ⟨r, rfl, hr, hb⟩
 obtain ⟨AS2, cS2, rfl, hr⟩ := owns_form hr
 have hS2 := Cells.of_owns hr
 clear hr
 replace HA := Lib.hid (HA.out.below hb)
 replace HL := Lib.hid (HL.out.below hb)
 replace HhS := Lib.hid (HhS.out.below hb)
 replace HT := Lib.hid (HT.out.trans (hb.mono hs))
 clear hs
 have hs := HT.out.size
 clear hb
 have HhS2 := Lib.hid hS2
 clear hS2
 obtain ⟨c0_0, c0_1⟩ := HL.out.cells
 go_wp2_with fail
 clear c0_0 c0_1
 (with_reducible refine (implWeaklyBisimilarOf_any _ l _ hsm HL.out.r).mono ?_)
 rintro e w5 ⟨r, rfl, hr, hb⟩
 obtain ⟨AW, cW, rfl, hr⟩ := owns_form hr
 have hW := Cells.of_owns hr
 clear hr
 replace HA := Lib.hid (HA.out.below hb)
 replace HL := Lib.hid (HL.out.below hb)
 replace HhS := Lib.hid (HhS.out.below hb)
 replace HhS2 := Lib.hid (HhS2.out.below hb)
 replace HT := Lib.hid (HT.out.trans (hb.mono hs))
 clear hs
 have hs := HT.out.size
 clear hb
 have HhW := Lib.hid hW
 clear hW
 obtain ⟨c0_0, c0_1⟩ := HL.out.cells
 go_wp2_with fail
 clear c0_0 c0_1
 (with_reducible refine (specWeaklyBisimilarOf_any _ l _ hsm HL.out.r).mono ?_)
 rintro e w6 ⟨r, rfl, hr, hb⟩
 obtain ⟨AW2, cW2, rfl, hr⟩ := owns_form hr
 have hW2 := Cells.of_owns hr
 clear hr
 replace HA := Lib.hid (HA.out.below hb)
 replace HL := Lib.hid (HL.out.below hb)
 replace HhS := Lib.hid (HhS.out.below hb)
 replace HhS2 := Lib.hid (HhS2.out.below hb)
 replace HhW := Lib.hid (HhW.out.below hb)
 replace HT := Lib.hid (HT.out.trans (hb.mono hs))
 clear hs
 have hs := HT.out.size
 clear hb
 have HhW2 := Lib.hid hW2
 clear hW2
 go_wp2_with fail
 (with_reducible refine (show Calls Tryz.prog 31 #[.slice A bs.length c, .int .i64 1] _ _ from vCut_any A bs c 1 _ HA.out HRNG.out hcap (by omega) (by omega)).mono ?_)
 rintro e w7 ⟨A3, c3, bs3, rfl, hA3, hrng3, hlen3, hb⟩
 have HA3 := Lib.hid hA3
 have HR3 := Lib.hid hrng3
 clear hA3 hrng3
 replace HA := Lib.hid (HA.out.below hb)
 replace HL := Lib.hid (HL.out.below hb)
 replace HhS := Lib.hid (HhS.out.below hb)
 replace HhS2 := Lib.hid (HhS2.out.below hb)
 replace HhW := Lib.hid (HhW.out.below hb)
 replace HhW2 := Lib.hid (HhW2.out.below hb)
 replace HT := Lib.hid (HT.out.trans (hb.mono hs))
 clear hs
 have hs := HT.out.size
 clear hb
 go_wp2_with fail
 (with_reducible refine (drawIsBisimulation_any A3 bs3 c3 _ HA3.out HR3.out (by omega)).mono ?_)
 rintro e w8 ⟨u, v, pv, ps, rfl, hD, hps, hpl, hb⟩
 clear HA3 HR3
 obtain ⟨m, BU, dU, BT, dT, hsb, hzb, rfl, rfl, hR⟩ := hD.open_
 clear hD
 replace HA := Lib.hid (HA.out.below hb)
 replace HL := Lib.hid (HL.out.below hb)
 replace HhS := Lib.hid (HhS.out.below hb)
 replace HhS2 := Lib.hid (HhS2.out.below hb)
 replace HhW := Lib.hid (HhW.out.below hb)
 replace HhW2 := Lib.hid (HhW2.out.below hb)
 replace HT := Lib.hid (HT.out.trans (hb.mono hs))
 clear hs
 have hs := HT.out.size
 clear hb
 have Hhps := Lib.hid hps
 clear hps
 have HhR := Lib.hid hR
 clear hR
 obtain ⟨w9, hw⟩ : ∃ W, W = w8.alloc (.cells #[.slice BU m.shows.length dU, .slice BT m.steps.length dT] 27) := ⟨_, rfl⟩
 have hb := below_new hw
 have h0 := At.new hw HhR.out
 have HM := Lib.hid h0
 clear h0
 have hzw9 : w9.heap.size = w8.heap.size + 1 := by rw [hw]; simp
 replace HA := Lib.hid (HA.out.below hb)
 replace HL := Lib.hid (HL.out.below hb)
 replace HhS := Lib.hid (HhS.out.below hb)
 replace HhS2 := Lib.hid (HhS2.out.below hb)
 replace HhW := Lib.hid (HhW.out.below hb)
 replace HhW2 := Lib.hid (HhW2.out.below hb)
 replace Hhps := Lib.hid (Hhps.out.below hb)
 replace HhR := Lib.hid (HhR.out.below hb)
 replace HT := Lib.hid (HT.out.trans (hb.mono hs))
 clear hs
 have hs := HT.out.size
 have HWw9 := Lib.hid hw
 clear hb hw
 clear HhR
 obtain ⟨AP, cP, rfl, _, hPc⟩ := Hhps.out
 clear hPc
 go_wp2_with fail
 rw [← HWw9.out]
 (with_reducible refine (implIsBisimulation_any _ _ m ps _ hsb HM.out.r (by omega) Hhps.out).mono ?_)
 rintro e w10 ⟨rfl, hb⟩
 replace HA := Lib.hid (HA.out.below hb)
 replace HL := Lib.hid (HL.out.below hb)
 replace HhS := Lib.hid (HhS.out.below hb)
 replace HhS2 := Lib.hid (HhS2.out.below hb)
 replace HhW := Lib.hid (HhW.out.below hb)
 replace HhW2 := Lib.hid (HhW2.out.below hb)
 replace Hhps := Lib.hid (Hhps.out.below hb)
 replace HM := Lib.hid (HM.out.below hb)
 replace HT := Lib.hid (HT.out.trans (hb.mono hs))
 clear hs
 have hs := HT.out.size
 clear hb
 obtain ⟨c0_0, c0_1⟩ := HM.out.cells
 go_wp2_with fail
 clear c0_0 c0_1
 (with_reducible refine (specIsBisimulation_any _ _ m ps _ hsb HM.out.r (by omega) Hhps.out).mono ?_)
 rintro e w11 ⟨rfl, hb⟩
 replace HA := Lib.hid (HA.out.below hb)
 replace HL := Lib.hid (HL.out.below hb)
 replace HhS := Lib.hid (HhS.out.below hb)
 replace HhS2 := Lib.hid (HhS2.out.below hb)
 replace HhW := Lib.hid (HhW.out.below hb)
 replace HhW2 := Lib.hid (HhW2.out.below hb)
 replace Hhps := Lib.hid (Hhps.out.below hb)
 replace HM := Lib.hid (HM.out.below hb)
 replace HT := Lib.hid (HT.out.trans (hb.mono hs))
 clear hs
 have hs := HT.out.size
 clear hb
 go_wp2_with fail
 (with_reducible refine (show Calls Tryz.prog 31 #[.slice A bs.length c, .int .i64 2] _ _ from vCut_any A bs c 2 _ HA.out HRNG.out hcap (by omega) (by omega)).mono ?_)
 rintro e w12 ⟨A4, c4, bs4, rfl, hA4, hrng4, hlen4, hb⟩
 have HA4 := Lib.hid hA4
 have HR4 := Lib.hid hrng4
 clear hA4 hrng4
 replace HA := Lib.hid (HA.out.below hb)
 replace HL := Lib.hid (HL.out.below hb)
 replace HhS := Lib.hid (HhS.out.below hb)
 replace HhS2 := Lib.hid (HhS2.out.below hb)
 replace HhW := Lib.hid (HhW.out.below hb)
 replace HhW2 := Lib.hid (HhW2.out.below hb)
 replace Hhps := Lib.hid (Hhps.out.below hb)
 replace HM := Lib.hid (HM.out.below hb)
 replace HT := Lib.hid (HT.out.trans (hb.mono hs))
 clear hs
 have hs := HT.out.size
 clear hb
 go_wp2_with fail
 (with_reducible refine (drawIsSimulated_any A4 bs4 c4 _ HA4.out HR4.out (by omega)).mono ?_)
 rintro e w13 ⟨u, v, s, t, rfl, hD, hs0, hs1, ht0, ht1, hb⟩
 clear HA4 HR4
 obtain ⟨h, DU, eU, DT, eT, hsh, hzh, rfl, rfl, hR⟩ := hD.open_
 clear hD
 replace HA := Lib.hid (HA.out.below hb)
 replace HL := Lib.hid (HL.out.below hb)
 replace HhS := Lib.hid (HhS.out.below hb)
 replace HhS2 := Lib.hid (HhS2.out.below hb)
 replace HhW := Lib.hid (HhW.out.below hb)
 replace HhW2 := Lib.hid (HhW2.out.below hb)
 replace Hhps := Lib.hid (Hhps.out.below hb)
 replace HM := Lib.hid (HM.out.below hb)
 replace HT := Lib.hid (HT.out.trans (hb.mono hs))
 clear hs
 have hs := HT.out.size
 clear hb
 obtain ⟨w14, hw⟩ : ∃ W, W = w13.alloc (.cells #[.slice DU h.shows.length eU, .slice DT h.steps.length eT] 27) := ⟨_, rfl⟩
 have hb := below_new hw
 have h0 := At.new hw hR
 have HH := Lib.hid h0
 clear h0
 have hzw14 : w14.heap.size = w13.heap.size + 1 := by rw [hw]; simp
 replace HA := Lib.hid (HA.out.below hb)
 replace HL := Lib.hid (HL.out.below hb)
 replace HhS := Lib.hid (HhS.out.below hb)
 replace HhS2 := Lib.hid (HhS2.out.below hb)
 replace HhW := Lib.hid (HhW.out.below hb)
 replace HhW2 := Lib.hid (HhW2.out.below hb)
 replace Hhps := Lib.hid (Hhps.out.below hb)
 replace HM := Lib.hid (HM.out.below hb)
 replace HT := Lib.hid (HT.out.trans (hb.mono hs))
 clear hs
 have hs := HT.out.size
 have HWw14 := Lib.hid hw
 clear hb hw
 clear hR
 clear HA
 go_wp2_with fail
 rw [← HWw14.out]
 (with_reducible refine (implIsSimulated_any _ h s t _ hsh HH.out.r).mono ?_)
 rintro e w15 ⟨b1, rfl, hb1, hb⟩
 replace HL := Lib.hid (HL.out.below hb)
 replace HhS := Lib.hid (HhS.out.below hb)
 replace HhS2 := Lib.hid (HhS2.out.below hb)
 replace HhW := Lib.hid (HhW.out.below hb)
 replace HhW2 := Lib.hid (HhW2.out.below hb)
 replace Hhps := Lib.hid (Hhps.out.below hb)
 replace HM := Lib.hid (HM.out.below hb)
 replace HH := Lib.hid (HH.out.below hb)
 replace HT := Lib.hid (HT.out.trans (hb.mono hs))
 clear hs
 have hs := HT.out.size
 clear hb
 obtain ⟨c0_0, c0_1⟩ := HH.out.cells
 go_wp2_with fail
 clear c0_0 c0_1
 (with_reducible refine (specIsSimulated_any _ h s t _ hsh HH.out.r).mono ?_)
 rintro e w16 ⟨b2, rfl, hb2, hb⟩
 obtain rfl := simSaid_one hb1 hb2
 clear hb1 hb2
 replace HL := Lib.hid (HL.out.below hb)
 replace HhS := Lib.hid (HhS.out.below hb)
 replace HhS2 := Lib.hid (HhS2.out.below hb)
 replace HhW := Lib.hid (HhW.out.below hb)
 replace HhW2 := Lib.hid (HhW2.out.below hb)
 replace Hhps := Lib.hid (Hhps.out.below hb)
 replace HM := Lib.hid (HM.out.below hb)
 replace HH := Lib.hid (HH.out.below hb)
 replace HT := Lib.hid (HT.out.trans (hb.mono hs))
 clear hs
 have hs := HT.out.size
 clear hb
 clear HH
 have e1 : (goodLab l != goodLab l) = false := by rw [bne_self_eq_false]
 obtain ⟨ib, hib⟩ : ∃ ib, ib = (okB m ps && bisB m ps) := ⟨_, rfl⟩
 rw [← hib]
 have HIB := Lib.hid hib
 clear hib
 have e2 : (ib != ib) = false := by rw [bne_self_eq_false]
 have e3 : (okB m ps != okB m ps) = false := by rw [bne_self_eq_false]
 have e4 : (b1 != b1) = false := by rw [bne_self_eq_false]
 have e5 : (okST h s t != okST h s t) = false := by rw [bne_self_eq_false]
 have hSn := bisR_len l
 have hWn := weakR_len l
 have hS1 := sameI_refl (bisR l)
 have hW1 := sameI_refl (weakR l)
 go_wp2_with fail
 (with_reducible refine (vInts_any AS AS2 cS cS2 (bisR l) (bisR l) _ (by omega) (by omega) HhS.out HhS2.out).mono ?_)
 rintro e w17 ⟨rfl, hb⟩
 replace HL := Lib.hid (HL.out.below hb)
 replace HhS := Lib.hid (HhS.out.below hb)
 replace HhS2 := Lib.hid (HhS2.out.below hb)
 replace HhW := Lib.hid (HhW.out.below hb)
 replace HhW2 := Lib.hid (HhW2.out.below hb)
 replace Hhps := Lib.hid (Hhps.out.below hb)
 replace HM := Lib.hid (HM.out.below hb)
 replace HT := Lib.hid (HT.out.trans (hb.mono hs))
 clear hs
 have hs := HT.out.size
 clear hb
 rw [hS1]
 clear HhS2
 go_wp2_with fail
 (with_reducible refine (vInts_any AW AW2 cW cW2 (weakR l) (weakR l) _ (by omega) (by omega) HhW.out HhW2.out).mono ?_)
 rintro e w18 ⟨rfl, hb⟩
 replace HL := Lib.hid (HL.out.below hb)
 replace HhS := Lib.hid (HhS.out.below hb)
 replace HhW := Lib.hid (HhW.out.below hb)
 replace HhW2 := Lib.hid (HhW2.out.below hb)
 replace Hhps := Lib.hid (Hhps.out.below hb)
 replace HM := Lib.hid (HM.out.below hb)
 replace HT := Lib.hid (HT.out.trans (hb.mono hs))
 clear hs
 have hs := HT.out.size
 clear hb
 rw [hW1]
 clear HhW2
 clear hS1 hW1
 cases ho : okB m ps
 ·obtain rfl : ib = false := by rw [HIB.out, ho]; rfl
  clear e1 e2 e3 e4 e5
  cases hg : goodLab l
  ·go_wp2_with fail
   go_ret
   exact ⟨rfl, HT.out⟩
  ·skip
   obtain ⟨C, hCe⟩ : ∃ C, C = bisR l := ⟨_, rfl⟩
   have hCn : C.length = l.shows.length := by rw [hCe]; exact (bisR_at hg).1
   have HBIS := Lib.hid (show ∀ a b, bis l a b ↔ C.getD a 0 = C.getD b 0 from fun a b => by rw [hCe]; unfold bisR; rw [if_pos hg]; exact Iff.rfl)
   rw [← hCe] at HhS hSn ⊢
   clear hCe
   obtain ⟨V, hVe⟩ : ∃ V, V = weakR l := ⟨_, rfl⟩
   have hVn : V.length = l.shows.length := by rw [hVe]; exact weakR_at hg
   have HWK := Lib.hid (show ∀ a b, a < l.shows.length → b < l.shows.length → bis l a b → V.getD a 0 = V.getD b 0 from fun a b ha hb h => by rw [hVe]; exact bisim_weak hg ha hb h)
   rw [← hVe] at HhW hWn ⊢
   have HSIM := Lib.hid (show ∀ a b : Nat, a < l.shows.length → b < l.shows.length → bis l a b → ∀ x, SimSaid l a b x → x = true ∧ okST l a b = true from fun a b ha hb h x hx => bisim_simulated hg ha hb h hx)
   have HALL := Lib.hid (show ∀ ps, AllP l l.shows.length 0 ps → okB l ps = true ∧ bisB l ps = true from fun ps h => h.whole hg)
   clear hVe
   have HCN := Lib.hid hCn
   have HVN := Lib.hid hVn
   have hCV1 : C.length ≤ V.length := by omega
   have hC40 : C.length ≤ 40 := by omega
   clear hCn hVn hg
   obtain ⟨wa, hwa⟩ : ∃ wa, wa = w18.alloc (.cells #[] 66) := ⟨_, rfl⟩
   have hba := below_new hwa
   have hsz : wa.heap.size = w18.heap.size + 1 := by rw [hwa]; simp
   have HOA := Lib.hid (show wa.ownsRow w18.heap.size 66 2 (.slice (some ⟨w18.heap.size, 0, none⟩) 0 0) ([] : List I2).length (([] : List I2).flatMap duo) by rw [hwa]; exact World.ownsRow_made w18 #[] 0 (Nat.le_refl _) (Nat.zero_le _) rfl)
   have HBA := Lib.hid hba
   have HWA := Lib.hid hwa
   clear hba hwa
   go_wp2_with fail
   rw [← HWA.out]
   go_loopw [28, 29] (fun v i wr => ∃ (k : Nat) (qs : List I2), k ≤ C.length ∧ i = .int .i64 k ∧ qs.length ≤ 40 * k ∧ AllP l k 0 qs ∧ wr.ownsRow w18.heap.size 66 2 v qs.length (qs.flatMap duo) ∧ Below w18.heap.size w18 wr)
    (fun _ i _ => C.length - (intOf i).toNat)
   case atStart => exact ⟨0, [], Nat.zero_le _, rfl, by simp, AllP.start l, HOA.out, HBA.out⟩
   case round =>
    obtain ⟨i, qs, hi, rfl, hql, hall, hown, hbel⟩ := hrel
    obtain ⟨Aq, cq, rfl, hown⟩ := owns_form hown
    have HALLP := Lib.hid hall
    have HOWN := Lib.hid hown
    have HBEL := Lib.hid hbel
    clear hall hown hbel
    by_cases hlt : i < C.length
    ·go_wp2_with fail
     go_loopw [28, 30] (fun v j wr2 => ∃ (k : Nat) (qs : List I2), k ≤ C.length ∧ j = .int .i64 k ∧ qs.length ≤ 40 * i + k ∧ AllP l i k qs ∧ wr2.ownsRow w18.heap.size 66 2 v qs.length (qs.flatMap duo) ∧ Below w18.heap.size w18 wr2)
      (fun _ j _ => C.length - (intOf j).toNat)
     case atStart => exact ⟨0, qs, Nat.zero_le _, rfl, by omega, HALLP.out, HOWN.out, HBEL.out⟩
     case round =>
      clear HALLP HOWN HBEL
      obtain ⟨k, rs, hk, rfl, hrl, hall, hown, hbel⟩ := hrel
      obtain ⟨Ar, cr, rfl, hown⟩ := owns_form hown
      have HALLP := Lib.hid hall
      have HOWN := Lib.hid hown
      have HBEL := Lib.hid hbel
      clear hall hown
      by_cases hlt2 : k < C.length
      ·obtain ⟨bC, oC, rfl, hc⟩ := (HhS.out.below hbel).int hlt
       have ci := hc i hlt
       have ck := hc k hlt2
       have hbk := HBIS.out i k
       clear hc hbel
       generalize C.getD i 0 = x at *
       generalize C.getD k 0 = y at *
       by_cases hxy : x = y
       ·have hbis := hbk.2 hxy
        subst hxy
        have hne : (x != x) = false := by rw [bne_self_eq_false]
        have HK := Lib.hid hbis
        clear hbk hbis
        go_wp2_with fail
        go_quiet (fail)
        have HBQ := Lib.hid (below_drewN' HBEL.out nq)
        have HOQ := Lib.hid (owns_below HOWN.out (below_drewN' (Below.refl wr.heap.size wr) nq) (Nat.le_refl _))
        generalize wr.drewN nq = wq at HBQ HOQ ⊢
        clear ci ck HBEL HOWN
        have hq := HBQ.out.size
        go_wp2_with (at_builtin; refine wpList_app el_a2 rfl _ _ rfl w18.heap.size _ _ _ rfl HOQ.out [.int .i64 (i : Int), .int .i64 (k : Int)] rfl rfl rfl (by intro u hu; simp at hu; rcases hu with rfl | rfl <;> rfl) (by omega) HBQ.out.size ?_; intro v3 w3' ho3 hk3 hm3)
        have HB3 := Lib.hid (HBQ.out.trans (hk3.below (B := w18.heap.size) (fun q hq => (HOQ.out.lt q hq).1) HBQ.out.size))
        have ho3 : w3'.ownsRow w18.heap.size 66 2 v3 (rs ++ [((i : Int), (k : Int))]).length ((rs ++ [((i : Int), (k : Int))]).flatMap duo) := by simpa [duo] using ho3
        obtain ⟨A3q, c3q, rfl, ho3⟩ := owns_form ho3
        have HO3 := Lib.hid ho3
        have HA3 := Lib.hid (HALLP.out.put (by have := HCN.out; omega) (by have := HCN.out; omega) HK.out)
        have hlen3 : (rs ++ [((i : Int), (k : Int))]).length ≤ 40 * i + (k + 1) := by simp; omega
        have hVx := HWK.out i k (by have := HCN.out; omega) (by have := HCN.out; omega) HK.out
        obtain ⟨bV, oV, eV, hcv⟩ := (HhW.out.below HB3.out).int (show i < V.length by omega)
        cases eV
        have vi := hcv i (by omega)
        have vk := hcv k (by omega)
        rw [← hVx] at vk
        generalize V.getD i 0 = z at *
        have hnz : (z != z) = false := by rw [bne_self_eq_false]
        generalize rs ++ [((i : Int), (k : Int))] = ts at *
        clear hcv hVx ho3 hk3 hm3 HALLP HOQ HBQ hq
        go_wp2_with fail
        go_quiet (fail)
        have HBQ := Lib.hid (below_drewN' HB3.out nq)
        have HOQ := Lib.hid (owns_below HO3.out (below_drewN' (Below.refl w3'.heap.size w3') nq) (Nat.le_refl _))
        generalize w3'.drewN nq = wq2 at HBQ HOQ ⊢
        clear vi vk HB3 HO3 hnz
        by_cases h4 : i < 4
        ·by_cases h5 : k < 4
         ·have h4' : (i : Int) < 4 := by omega
          have h5' : (k : Int) < 4 := by omega
          obtain ⟨c0_0, c0_1⟩ := (HL.out.below HBQ.out).cells
          go_wp2_with fail
          (with_reducible refine (implIsSimulated_any _ l (i : Int) (k : Int) wq2 hsm (HL.out.below HBQ.out).r).mono ?_)
          rintro e w5' ⟨bb, rfl, hbb, hb5⟩
          obtain ⟨rfl, hok⟩ := HSIM.out i k (by have := HCN.out; omega) (by have := HCN.out; omega) HK.out bb hbb
          rw [hok]
          have HB5 := Lib.hid (HBQ.out.trans (hb5.mono HBQ.out.size))
          have HO5 := Lib.hid (owns_below HOQ.out hb5 (Nat.le_refl _))
          clear c0_0 c0_1 hbb hok hb5
          go_wp2_with fail
          go_roundw
          case rel => exact ⟨k + 1, ts, by omega, by go_num, hlen3, HA3.out, HO5.out, HB5.out⟩
          case measure => simp [intOf]; omega
         ·have h4' : (i : Int) < 4 := by omega
          have h5' : ¬ (k : Int) < 4 := by omega
          go_wp2_with fail
          go_roundw
          case rel => exact ⟨k + 1, ts, by omega, by go_num, hlen3, HA3.out, HOQ.out, HBQ.out⟩
          case measure => simp [intOf]; omega
        ·have h4' : ¬ (i : Int) < 4 := by omega
         go_wp2_with fail
         go_roundw
         case rel => exact ⟨k + 1, ts, by omega, by go_num, hlen3, HA3.out, HOQ.out, HBQ.out⟩
         case measure => simp [intOf]; omega
       ·have hne : (x != y) = true := by rw [bne_iff_ne]; exact hxy
        have HK := Lib.hid (fun h => hxy (hbk.1 h))
        clear hbk hxy
        go_wp2_with fail
        go_quiet (fail)
        go_wp2_with fail
        go_roundw
        case rel => exact ⟨k + 1, rs, by omega, by go_num, by omega, HALLP.out.skip HK.out, owns_below HOWN.out (below_drewN' (Below.refl wr.heap.size wr) nq) (Nat.le_refl _), below_drewN' HBEL.out nq⟩
        case measure => simp [intOf]; omega
      ·obtain rfl : k = C.length := by omega
       go_wp2_with fail
       go_roundw
       case rel => exact ⟨i + 1, rs, by omega, by go_num, by omega, AllP.next (by rw [← HCN.out]; exact HALLP.out), HOWN.out, HBEL.out⟩
       case measure => simp [intOf]; omega
    ·obtain rfl : i = C.length := by omega
     obtain ⟨hk1, hk2⟩ := HALL.out qs (by rw [← HCN.out]; exact HALLP.out)
     have HFIN := Lib.hid (implIsBisimulation_any _ _ l qs wr hsm (HL.out.below HBEL.out).r (by omega) ⟨Aq, cq, rfl, by unfold maxLen; omega, Cells.of_owns HOWN.out⟩)
     rw [hk1, hk2] at HFIN
     obtain ⟨c0_0, c0_1⟩ := (HL.out.below HBEL.out).cells
     clear hk1 hk2
     go_wp2_with fail
     (with_reducible refine HFIN.out.mono ?_)
     rintro e w9' ⟨rfl, hb9⟩
     have HB9 := Lib.hid (HT.out.trans ((HBEL.out.trans (hb9.mono HBEL.out.size)).mono hs))
     clear c0_0 c0_1 hb9
     go_wp2_with fail
     go_ret
     exact ⟨rfl, HB9.out⟩
 ·cases hb : bisB m ps
  ·obtain rfl : ib = false := by rw [HIB.out, ho, hb]; rfl
   clear e1 e2 e3 e4 e5
   cases hg : goodLab l
   ·go_wp2_with fail
    go_ret
    exact ⟨rfl, HT.out⟩
   ·skip
    obtain ⟨C, hCe⟩ : ∃ C, C = bisR l := ⟨_, rfl⟩
    have hCn : C.length = l.shows.length := by rw [hCe]; exact (bisR_at hg).1
    have HBIS := Lib.hid (show ∀ a b, bis l a b ↔ C.getD a 0 = C.getD b 0 from fun a b => by rw [hCe]; unfold bisR; rw [if_pos hg]; exact Iff.rfl)
    rw [← hCe] at HhS hSn ⊢
    clear hCe
    obtain ⟨V, hVe⟩ : ∃ V, V = weakR l := ⟨_, rfl⟩
    have hVn : V.length = l.shows.length := by rw [hVe]; exact weakR_at hg
    have HWK := Lib.hid (show ∀ a b, a < l.shows.length → b < l.shows.length → bis l a b → V.getD a 0 = V.getD b 0 from fun a b ha hb h => by rw [hVe]; exact bisim_weak hg ha hb h)
    rw [← hVe] at HhW hWn ⊢
    have HSIM := Lib.hid (show ∀ a b : Nat, a < l.shows.length → b < l.shows.length → bis l a b → ∀ x, SimSaid l a b x → x = true ∧ okST l a b = true from fun a b ha hb h x hx => bisim_simulated hg ha hb h hx)
    have HALL := Lib.hid (show ∀ ps, AllP l l.shows.length 0 ps → okB l ps = true ∧ bisB l ps = true from fun ps h => h.whole hg)
    clear hVe
    have HCN := Lib.hid hCn
    have HVN := Lib.hid hVn
    have hCV1 : C.length ≤ V.length := by omega
    have hC40 : C.length ≤ 40 := by omega
    clear hCn hVn hg
    obtain ⟨wa, hwa⟩ : ∃ wa, wa = w18.alloc (.cells #[] 66) := ⟨_, rfl⟩
    have hba := below_new hwa
    have hsz : wa.heap.size = w18.heap.size + 1 := by rw [hwa]; simp
    have HOA := Lib.hid (show wa.ownsRow w18.heap.size 66 2 (.slice (some ⟨w18.heap.size, 0, none⟩) 0 0) ([] : List I2).length (([] : List I2).flatMap duo) by rw [hwa]; exact World.ownsRow_made w18 #[] 0 (Nat.le_refl _) (Nat.zero_le _) rfl)
    have HBA := Lib.hid hba
    have HWA := Lib.hid hwa
    clear hba hwa
    go_wp2_with fail
    rw [← HWA.out]
    go_loopw [28, 29] (fun v i wr => ∃ (k : Nat) (qs : List I2), k ≤ C.length ∧ i = .int .i64 k ∧ qs.length ≤ 40 * k ∧ AllP l k 0 qs ∧ wr.ownsRow w18.heap.size 66 2 v qs.length (qs.flatMap duo) ∧ Below w18.heap.size w18 wr)
     (fun _ i _ => C.length - (intOf i).toNat)
    case atStart => exact ⟨0, [], Nat.zero_le _, rfl, by simp, AllP.start l, HOA.out, HBA.out⟩
    case round =>
     obtain ⟨i, qs, hi, rfl, hql, hall, hown, hbel⟩ := hrel
     obtain ⟨Aq, cq, rfl, hown⟩ := owns_form hown
     have HALLP := Lib.hid hall
     have HOWN := Lib.hid hown
     have HBEL := Lib.hid hbel
     clear hall hown hbel
     by_cases hlt : i < C.length
     ·go_wp2_with fail
      go_loopw [28, 30] (fun v j wr2 => ∃ (k : Nat) (qs : List I2), k ≤ C.length ∧ j = .int .i64 k ∧ qs.length ≤ 40 * i + k ∧ AllP l i k qs ∧ wr2.ownsRow w18.heap.size 66 2 v qs.length (qs.flatMap duo) ∧ Below w18.heap.size w18 wr2)
       (fun _ j _ => C.length - (intOf j).toNat)
      case atStart => exact ⟨0, qs, Nat.zero_le _, rfl, by omega, HALLP.out, HOWN.out, HBEL.out⟩
      case round =>
       clear HALLP HOWN HBEL
       obtain ⟨k, rs, hk, rfl, hrl, hall, hown, hbel⟩ := hrel
       obtain ⟨Ar, cr, rfl, hown⟩ := owns_form hown
       have HALLP := Lib.hid hall
       have HOWN := Lib.hid hown
       have HBEL := Lib.hid hbel
       clear hall hown
       by_cases hlt2 : k < C.length
       ·obtain ⟨bC, oC, rfl, hc⟩ := (HhS.out.below hbel).int hlt
        have ci := hc i hlt
        have ck := hc k hlt2
        have hbk := HBIS.out i k
        clear hc hbel
        generalize C.getD i 0 = x at *
        generalize C.getD k 0 = y at *
        by_cases hxy : x = y
        ·have hbis := hbk.2 hxy
         subst hxy
         have hne : (x != x) = false := by rw [bne_self_eq_false]
         have HK := Lib.hid hbis
         clear hbk hbis
         go_wp2_with fail
         go_quiet (fail)
         have HBQ := Lib.hid (below_drewN' HBEL.out nq)
         have HOQ := Lib.hid (owns_below HOWN.out (below_drewN' (Below.refl wr.heap.size wr) nq) (Nat.le_refl _))
         generalize wr.drewN nq = wq at HBQ HOQ ⊢
         clear ci ck HBEL HOWN
         have hq := HBQ.out.size
         go_wp2_with (at_builtin; refine wpList_app el_a2 rfl _ _ rfl w18.heap.size _ _ _ rfl HOQ.out [.int .i64 (i : Int), .int .i64 (k : Int)] rfl rfl rfl (by intro u hu; simp at hu; rcases hu with rfl | rfl <;> rfl) (by omega) HBQ.out.size ?_; intro v3 w3' ho3 hk3 hm3)
         have HB3 := Lib.hid (HBQ.out.trans (hk3.below (B := w18.heap.size) (fun q hq => (HOQ.out.lt q hq).1) HBQ.out.size))
         have ho3 : w3'.ownsRow w18.heap.size 66 2 v3 (rs ++ [((i : Int), (k : Int))]).length ((rs ++ [((i : Int), (k : Int))]).flatMap duo) := by simpa [duo] using ho3
         obtain ⟨A3q, c3q, rfl, ho3⟩ := owns_form ho3
         have HO3 := Lib.hid ho3
         have HA3 := Lib.hid (HALLP.out.put (by have := HCN.out; omega) (by have := HCN.out; omega) HK.out)
         have hlen3 : (rs ++ [((i : Int), (k : Int))]).length ≤ 40 * i + (k + 1) := by simp; omega
         have hVx := HWK.out i k (by have := HCN.out; omega) (by have := HCN.out; omega) HK.out
         obtain ⟨bV, oV, eV, hcv⟩ := (HhW.out.below HB3.out).int (show i < V.length by omega)
         cases eV
         have vi := hcv i (by omega)
         have vk := hcv k (by omega)
         rw [← hVx] at vk
         generalize V.getD i 0 = z at *
         have hnz : (z != z) = false := by rw [bne_self_eq_false]
         generalize rs ++ [((i : Int), (k : Int))] = ts at *
         clear hcv hVx ho3 hk3 hm3 HALLP HOQ HBQ hq
         go_wp2_with fail
         go_quiet (fail)
         have HBQ := Lib.hid (below_drewN' HB3.out nq)
         have HOQ := Lib.hid (owns_below HO3.out (below_drewN' (Below.refl w3'.heap.size w3') nq) (Nat.le_refl _))
         generalize w3'.drewN nq = wq2 at HBQ HOQ ⊢
         clear vi vk HB3 HO3 hnz
         by_cases h4 : i < 4
         ·by_cases h5 : k < 4
          ·have h4' : (i : Int) < 4 := by omega
           have h5' : (k : Int) < 4 := by omega
           obtain ⟨c0_0, c0_1⟩ := (HL.out.below HBQ.out).cells
           go_wp2_with fail
           (with_reducible refine (implIsSimulated_any _ l (i : Int) (k : Int) wq2 hsm (HL.out.below HBQ.out).r).mono ?_)
           rintro e w5' ⟨bb, rfl, hbb, hb5⟩
           obtain ⟨rfl, hok⟩ := HSIM.out i k (by have := HCN.out; omega) (by have := HCN.out; omega) HK.out bb hbb
           rw [hok]
           have HB5 := Lib.hid (HBQ.out.trans (hb5.mono HBQ.out.size))
           have HO5 := Lib.hid (owns_below HOQ.out hb5 (Nat.le_refl _))
           clear c0_0 c0_1 hbb hok hb5
           go_wp2_with fail
           go_roundw
           case rel => exact ⟨k + 1, ts, by omega, by go_num, hlen3, HA3.out, HO5.out, HB5.out⟩
           case measure => simp [intOf]; omega
          ·have h4' : (i : Int) < 4 := by omega
           have h5' : ¬ (k : Int) < 4 := by omega
           go_wp2_with fail
           go_roundw
           case rel => exact ⟨k + 1, ts, by omega, by go_num, hlen3, HA3.out, HOQ.out, HBQ.out⟩
           case measure => simp [intOf]; omega
         ·have h4' : ¬ (i : Int) < 4 := by omega
          go_wp2_with fail
          go_roundw
          case rel => exact ⟨k + 1, ts, by omega, by go_num, hlen3, HA3.out, HOQ.out, HBQ.out⟩
          case measure => simp [intOf]; omega
        ·have hne : (x != y) = true := by rw [bne_iff_ne]; exact hxy
         have HK := Lib.hid (fun h => hxy (hbk.1 h))
         clear hbk hxy
         go_wp2_with fail
         go_quiet (fail)
         go_wp2_with fail
         go_roundw
         case rel => exact ⟨k + 1, rs, by omega, by go_num, by omega, HALLP.out.skip HK.out, owns_below HOWN.out (below_drewN' (Below.refl wr.heap.size wr) nq) (Nat.le_refl _), below_drewN' HBEL.out nq⟩
         case measure => simp [intOf]; omega
       ·obtain rfl : k = C.length := by omega
        go_wp2_with fail
        go_roundw
        case rel => exact ⟨i + 1, rs, by omega, by go_num, by omega, AllP.next (by rw [← HCN.out]; exact HALLP.out), HOWN.out, HBEL.out⟩
        case measure => simp [intOf]; omega
     ·obtain rfl : i = C.length := by omega
      obtain ⟨hk1, hk2⟩ := HALL.out qs (by rw [← HCN.out]; exact HALLP.out)
      have HFIN := Lib.hid (implIsBisimulation_any _ _ l qs wr hsm (HL.out.below HBEL.out).r (by omega) ⟨Aq, cq, rfl, by unfold maxLen; omega, Cells.of_owns HOWN.out⟩)
      rw [hk1, hk2] at HFIN
      obtain ⟨c0_0, c0_1⟩ := (HL.out.below HBEL.out).cells
      clear hk1 hk2
      go_wp2_with fail
      (with_reducible refine HFIN.out.mono ?_)
      rintro e w9' ⟨rfl, hb9⟩
      have HB9 := Lib.hid (HT.out.trans ((HBEL.out.trans (hb9.mono HBEL.out.size)).mono hs))
      clear c0_0 c0_1 hb9
      go_wp2_with fail
      go_ret
      exact ⟨rfl, HB9.out⟩
  ·obtain rfl : ib = true := by rw [HIB.out, ho, hb]; rfl
   have hgm := (okB_iff.1 ho).1
   have HIN := Lib.hid (fun (x : I2) (hx : x ∈ ps) => bisim_within ho hb hx)
   clear e1 e2 e3 e4 e5 ho hb
   obtain ⟨c0_0, c0_1⟩ := HM.out.cells
   go_wp2_with fail
   clear c0_0 c0_1
   (with_reducible refine (implBisimilarOf_any _ m _ hsb HM.out.r).mono ?_)
   rintro e w19 ⟨r, rfl, hr, hb⟩
   obtain ⟨AN, cN, rfl, hr⟩ := owns_form hr
   have hN := Cells.of_owns hr
   clear hr
   replace HL := Lib.hid (HL.out.below hb)
   replace HhS := Lib.hid (HhS.out.below hb)
   replace HhW := Lib.hid (HhW.out.below hb)
   replace Hhps := Lib.hid (Hhps.out.below hb)
   replace HM := Lib.hid (HM.out.below hb)
   replace HT := Lib.hid (HT.out.trans (hb.mono hs))
   clear hs
   have hs := HT.out.size
   clear hb
   have HhN := Lib.hid hN
   clear hN
   obtain ⟨N, hNe⟩ : ∃ N, N = bisR m := ⟨_, rfl⟩
   have hNl : N = lastL m := by rw [hNe]; unfold bisR; rw [if_pos hgm]
   have hNn : N.length = m.shows.length := by rw [hNe]; exact (bisR_at hgm).1
   have hN40 := bisR_len m
   rw [← hNe] at HhN hN40 ⊢
   have HIN := Lib.hid (show ∀ x ∈ ps, ∃ a b : Nat, x = ((a : Int), (b : Int)) ∧ a < N.length ∧ b < N.length ∧ N.getD a 0 = N.getD b 0 from fun x hx => by rw [hNn, hNl]; exact HIN.out x hx)
   clear hNl hNn hNe
   go_wp2_with fail
   go_loopw [27] (fun i wr => ∃ k : Nat, k ≤ ps.length ∧ i = .int .i64 k ∧ Below w19.heap.size w19 wr)
    (fun i _ => ps.length - (intOf i).toNat)
   case atStart => exact ⟨0, Nat.zero_le _, rfl, Below.refl _ _⟩
   case round =>
    obtain ⟨k, hk, rfl, hbel⟩ := hrel
    have HBEL := Lib.hid hbel
    by_cases hlt : k < ps.length
    ·obtain ⟨a, b, hx, ha, hb, hab⟩ := HIN.out ps[k] (List.getElem_mem hlt)
     obtain ⟨bP, oP, cP', eP, hc0, hc1⟩ := RA2.at_ (RA2.below Hhps.out hbel) (List.getElem?_eq_getElem hlt)
     cases eP
     obtain ⟨bN, oN, eN, hcn⟩ := (HhN.out.below hbel).int ha
     cases eN
     have na := hcn a ha
     have nb := hcn b hb
     rw [hx] at hc0 hc1
     dsimp only at hc0 hc1
     rw [← hab] at nb
     generalize N.getD a 0 = x at *
     have hne : (x != x) = false := by rw [bne_self_eq_false]
     clear hx hab hcn hbel
     go_wp2_with fail
     go_quiet (fail)
     go_wp2_with fail
     go_roundw
     case rel => exact ⟨k + 1, by omega, by go_num, below_drewN' HBEL.out _⟩
     case measure => simp [intOf]; omega
    ·obtain rfl : k = ps.length := by omega
     clear hbel hk hlt
     generalize wr = wx at *
     have hb := HBEL.out
     clear HBEL
     replace HL := Lib.hid (HL.out.below hb)
     replace HhS := Lib.hid (HhS.out.below hb)
     replace HhW := Lib.hid (HhW.out.below hb)
     replace Hhps := Lib.hid (Hhps.out.below hb)
     replace HM := Lib.hid (HM.out.below hb)
     replace HhN := Lib.hid (HhN.out.below hb)
     replace HT := Lib.hid (HT.out.trans (hb.mono hs))
     clear hs
     have hs := HT.out.size
     clear hb
     clear HhN
     clear HM
     clear Hhps
     cases hg : goodLab l
     ·go_wp2_with fail
      go_ret
      exact ⟨rfl, HT.out⟩
     ·skip
      obtain ⟨C, hCe⟩ : ∃ C, C = bisR l := ⟨_, rfl⟩
      have hCn : C.length = l.shows.length := by rw [hCe]; exact (bisR_at hg).1
      have HBIS := Lib.hid (show ∀ a b, bis l a b ↔ C.getD a 0 = C.getD b 0 from fun a b => by rw [hCe]; unfold bisR; rw [if_pos hg]; exact Iff.rfl)
      rw [← hCe] at HhS hSn ⊢
      clear hCe
      obtain ⟨V, hVe⟩ : ∃ V, V = weakR l := ⟨_, rfl⟩
      have hVn : V.length = l.shows.length := by rw [hVe]; exact weakR_at hg
      have HWK := Lib.hid (show ∀ a b, a < l.shows.length → b < l.shows.length → bis l a b → V.getD a 0 = V.getD b 0 from fun a b ha hb h => by rw [hVe]; exact bisim_weak hg ha hb h)
      rw [← hVe] at HhW hWn ⊢
      have HSIM := Lib.hid (show ∀ a b : Nat, a < l.shows.length → b < l.shows.length → bis l a b → ∀ x, SimSaid l a b x → x = true ∧ okST l a b = true from fun a b ha hb h x hx => bisim_simulated hg ha hb h hx)
      have HALL := Lib.hid (show ∀ ps, AllP l l.shows.length 0 ps → okB l ps = true ∧ bisB l ps = true from fun ps h => h.whole hg)
      clear hVe
      have HCN := Lib.hid hCn
      have HVN := Lib.hid hVn
      have hCV1 : C.length ≤ V.length := by omega
      have hC40 : C.length ≤ 40 := by omega
      clear hCn hVn hg
      obtain ⟨wa, hwa⟩ : ∃ wa, wa = wx.alloc (.cells #[] 66) := ⟨_, rfl⟩
      have hba := below_new hwa
      have hsz : wa.heap.size = wx.heap.size + 1 := by rw [hwa]; simp
      have HOA := Lib.hid (show wa.ownsRow wx.heap.size 66 2 (.slice (some ⟨wx.heap.size, 0, none⟩) 0 0) ([] : List I2).length (([] : List I2).flatMap duo) by rw [hwa]; exact World.ownsRow_made wx #[] 0 (Nat.le_refl _) (Nat.zero_le _) rfl)
      have HBA := Lib.hid hba
      have HWA := Lib.hid hwa
      clear hba hwa
      go_wp2_with fail
      rw [← HWA.out]
      go_loopw [28, 29] (fun v i wr => ∃ (k : Nat) (qs : List I2), k ≤ C.length ∧ i = .int .i64 k ∧ qs.length ≤ 40 * k ∧ AllP l k 0 qs ∧ wr.ownsRow wx.heap.size 66 2 v qs.length (qs.flatMap duo) ∧ Below wx.heap.size wx wr)
       (fun _ i _ => C.length - (intOf i).toNat)
      case atStart => exact ⟨0, [], Nat.zero_le _, rfl, by simp, AllP.start l, HOA.out, HBA.out⟩
      case round =>
       obtain ⟨i, qs, hi, rfl, hql, hall, hown, hbel⟩ := hrel
       obtain ⟨Aq, cq, rfl, hown⟩ := owns_form hown
       have HALLP := Lib.hid hall
       have HOWN := Lib.hid hown
       have HBEL := Lib.hid hbel
       clear hall hown hbel
       by_cases hlt : i < C.length
       ·go_wp2_with fail
        go_loopw [28, 30] (fun v j wr2 => ∃ (k : Nat) (qs : List I2), k ≤ C.length ∧ j = .int .i64 k ∧ qs.length ≤ 40 * i + k ∧ AllP l i k qs ∧ wr2.ownsRow wx.heap.size 66 2 v qs.length (qs.flatMap duo) ∧ Below wx.heap.size wx wr2)
         (fun _ j _ => C.length - (intOf j).toNat)
        case atStart => exact ⟨0, qs, Nat.zero_le _, rfl, by omega, HALLP.out, HOWN.out, HBEL.out⟩
        case round =>
         clear HALLP HOWN HBEL
         obtain ⟨k, rs, hk, rfl, hrl, hall, hown, hbel⟩ := hrel
         obtain ⟨Ar, cr, rfl, hown⟩ := owns_form hown
         have HALLP := Lib.hid hall
         have HOWN := Lib.hid hown
         have HBEL := Lib.hid hbel
         clear hall hown
         by_cases hlt2 : k < C.length
         ·obtain ⟨bC, oC, rfl, hc⟩ := (HhS.out.below hbel).int hlt
          have ci := hc i hlt
          have ck := hc k hlt2
          have hbk := HBIS.out i k
          clear hc hbel
          generalize C.getD i 0 = x at *
          generalize C.getD k 0 = y at *
          by_cases hxy : x = y
          ·have hbis := hbk.2 hxy
           subst hxy
           have hne : (x != x) = false := by rw [bne_self_eq_false]
           have HK := Lib.hid hbis
           clear hbk hbis
           go_wp2_with fail
           go_quiet (fail)
           have HBQ := Lib.hid (below_drewN' HBEL.out nq)
           have HOQ := Lib.hid (owns_below HOWN.out (below_drewN' (Below.refl wr.heap.size wr) nq) (Nat.le_refl _))
           generalize wr.drewN nq = wq at HBQ HOQ ⊢
           clear ci ck HBEL HOWN
           have hq := HBQ.out.size
           go_wp2_with (at_builtin; refine wpList_app el_a2 rfl _ _ rfl wx.heap.size _ _ _ rfl HOQ.out [.int .i64 (i : Int), .int .i64 (k : Int)] rfl rfl rfl (by intro u hu; simp at hu; rcases hu with rfl | rfl <;> rfl) (by omega) HBQ.out.size ?_; intro v3 w3' ho3 hk3 hm3)
           have HB3 := Lib.hid (HBQ.out.trans (hk3.below (B := wx.heap.size) (fun q hq => (HOQ.out.lt q hq).1) HBQ.out.size))
           have ho3 : w3'.ownsRow wx.heap.size 66 2 v3 (rs ++ [((i : Int), (k : Int))]).length ((rs ++ [((i : Int), (k : Int))]).flatMap duo) := by simpa [duo] using ho3
           obtain ⟨A3q, c3q, rfl, ho3⟩ := owns_form ho3
           have HO3 := Lib.hid ho3
           have HA3 := Lib.hid (HALLP.out.put (by have := HCN.out; omega) (by have := HCN.out; omega) HK.out)
           have hlen3 : (rs ++ [((i : Int), (k : Int))]).length ≤ 40 * i + (k + 1) := by simp; omega
           have hVx := HWK.out i k (by have := HCN.out; omega) (by have := HCN.out; omega) HK.out
           obtain ⟨bV, oV, eV, hcv⟩ := (HhW.out.below HB3.out).int (show i < V.length by omega)
           cases eV
           have vi := hcv i (by omega)
           have vk := hcv k (by omega)
           rw [← hVx] at vk
           generalize V.getD i 0 = z at *
           have hnz : (z != z) = false := by rw [bne_self_eq_false]
           generalize rs ++ [((i : Int), (k : Int))] = ts at *
           clear hcv hVx ho3 hk3 hm3 HALLP HOQ HBQ hq
           go_wp2_with fail
           go_quiet (fail)
           have HBQ := Lib.hid (below_drewN' HB3.out nq)
           have HOQ := Lib.hid (owns_below HO3.out (below_drewN' (Below.refl w3'.heap.size w3') nq) (Nat.le_refl _))
           generalize w3'.drewN nq = wq2 at HBQ HOQ ⊢
           clear vi vk HB3 HO3 hnz
           by_cases h4 : i < 4
           ·by_cases h5 : k < 4
            ·have h4' : (i : Int) < 4 := by omega
             have h5' : (k : Int) < 4 := by omega
             obtain ⟨c0_0, c0_1⟩ := (HL.out.below HBQ.out).cells
             go_wp2_with fail
             (with_reducible refine (implIsSimulated_any _ l (i : Int) (k : Int) wq2 hsm (HL.out.below HBQ.out).r).mono ?_)
             rintro e w5' ⟨bb, rfl, hbb, hb5⟩
             obtain ⟨rfl, hok⟩ := HSIM.out i k (by have := HCN.out; omega) (by have := HCN.out; omega) HK.out bb hbb
             rw [hok]
             have HB5 := Lib.hid (HBQ.out.trans (hb5.mono HBQ.out.size))
             have HO5 := Lib.hid (owns_below HOQ.out hb5 (Nat.le_refl _))
             clear c0_0 c0_1 hbb hok hb5
             go_wp2_with fail
             go_roundw
             case rel => exact ⟨k + 1, ts, by omega, by go_num, hlen3, HA3.out, HO5.out, HB5.out⟩
             case measure => simp [intOf]; omega
            ·have h4' : (i : Int) < 4 := by omega
             have h5' : ¬ (k : Int) < 4 := by omega
             go_wp2_with fail
             go_roundw
             case rel => exact ⟨k + 1, ts, by omega, by go_num, hlen3, HA3.out, HOQ.out, HBQ.out⟩
             case measure => simp [intOf]; omega
           ·have h4' : ¬ (i : Int) < 4 := by omega
            go_wp2_with fail
            go_roundw
            case rel => exact ⟨k + 1, ts, by omega, by go_num, hlen3, HA3.out, HOQ.out, HBQ.out⟩
            case measure => simp [intOf]; omega
          ·have hne : (x != y) = true := by rw [bne_iff_ne]; exact hxy
           have HK := Lib.hid (fun h => hxy (hbk.1 h))
           clear hbk hxy
           go_wp2_with fail
           go_quiet (fail)
           go_wp2_with fail
           go_roundw
           case rel => exact ⟨k + 1, rs, by omega, by go_num, by omega, HALLP.out.skip HK.out, owns_below HOWN.out (below_drewN' (Below.refl wr.heap.size wr) nq) (Nat.le_refl _), below_drewN' HBEL.out nq⟩
           case measure => simp [intOf]; omega
         ·obtain rfl : k = C.length := by omega
          go_wp2_with fail
          go_roundw
          case rel => exact ⟨i + 1, rs, by omega, by go_num, by omega, AllP.next (by rw [← HCN.out]; exact HALLP.out), HOWN.out, HBEL.out⟩
          case measure => simp [intOf]; omega
       ·obtain rfl : i = C.length := by omega
        obtain ⟨hk1, hk2⟩ := HALL.out qs (by rw [← HCN.out]; exact HALLP.out)
        have HFIN := Lib.hid (implIsBisimulation_any _ _ l qs wr hsm (HL.out.below HBEL.out).r (by omega) ⟨Aq, cq, rfl, by unfold maxLen; omega, Cells.of_owns HOWN.out⟩)
        rw [hk1, hk2] at HFIN
        obtain ⟨c0_0, c0_1⟩ := (HL.out.below HBEL.out).cells
        clear hk1 hk2
        go_wp2_with fail
        (with_reducible refine HFIN.out.mono ?_)
        rintro e w9' ⟨rfl, hb9⟩
        have HB9 := Lib.hid (HT.out.trans ((HBEL.out.trans (hb9.mono HBEL.out.size)).mono hs))
        clear c0_0 c0_1 hb9
        go_wp2_with fail
        go_ret
        exact ⟨rfl, HB9.out⟩

end Go.Proofs.YtdgnhfhaaghoaaaGreatDoor
