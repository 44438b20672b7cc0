/- The law of quotients over drawn systems, walked: each state is bisimilar to its state of the quotient, in which no two states are. -/
import Derived.Test.YtdgnhfhaaghoaaaGreatDoorProg
import Derived.Test.YtdgnhfhaaghoaaaGreatDoorJ44
import Derived.Test.YtdgnhfhaaghoaaaGreatDoorJ45
import Derived.Test.YtdgnhfhaaghoaaaGreatDoorJ46
import Derived.Test.YtdgnhfhaaghoaaaGreatDoorJ47
import Derived.Test.YtdgnhfhaaghoaaaGreatDoorJ48
import Derived.BigQuiet
set_option linter.unusedSimpArgs false
set_option linter.unusedVariables false
namespace Go.Proofs.YtdgnhfhaaghoaaaGreatDoor
open Go.RowKit

set_option maxRecDepth 100000 in
set_option maxHeartbeats 32000000 in
theorem lawFnQuotients (A : Option Addr) (bs : List Int) (c : Nat) (w : World) (hA : Cells w A (u8s bs)) (hrng : ∀ x ∈ bs, 0 ≤ x ∧ x < 256) (hlen : bs.length ≤ maxLen) (hcap : bs.length ≤ c) :
    Calls Tryz.prog 6 #[.slice A bs.length c] w fun e w' => e = .returned (.bool true) ∧ Below w.heap.size w w' := by
  have HB := Lib.hid (vBig_any A bs.length c w hlen)
  by_cases hbig : 65536 < bs.length
  · rw [show decide (65536 < bs.length) = true from by simp [hbig]] at HB
    clear hbig hlen hA hrng
    go_enter Tryz.func6, Tryz.ntmps6
    go_wp2_with fail
    (with_reducible refine HB.out.mono ?_)
    rintro e w1 ⟨rfl, rfl⟩
    go_wp2_with fail
    go_ret
    exact ⟨rfl, Below.refl _ _⟩
  rw [show decide (65536 < bs.length) = false from by simp [hbig]] at HB
  have hb64 : bs.length ≤ 65536 := by omega
  clear hbig hlen
  have HA := Lib.hid hA
  have HRNG := Lib.hid hrng
  clear hA hrng
  have HT := Lib.hid (Below.refl w.heap.size w)
  have hs : w.heap.size ≤ w.heap.size := Nat.le_refl _
  go_enter Tryz.func6, Tryz.ntmps6
  go_wp2_with fail
  (with_reducible refine HB.out.mono ?_)
  rintro e w' ⟨rfl, rfl⟩
  clear HB
  go_wp2_with fail
  (with_reducible refine (drawQuotientOf_any A bs c w HA.out HRNG.out (by omega)).mono ?_)
  rintro e w1 ⟨u, v, rfl, hD, hb⟩
  obtain ⟨l, AU, cU, AT, cT, hsm, hz, rfl, rfl, hR⟩ := hD.open_
  clear hD
  replace HA := Lib.hid (HA.out.below hb)
  replace HT := Lib.hid (HT.out.trans (hb.mono hs))
  clear hs
  have hs := HT.out.size
  clear hb
  obtain ⟨w2, hw⟩ : ∃ W, W = w1.alloc (.cells #[.slice AU l.shows.length cU, .slice AT l.steps.length cT] 27) := ⟨_, rfl⟩
  have hb := below_new hw
  have h0 := At.new hw hR
  have HL := Lib.hid h0
  clear h0
  have hzw2 : w2.heap.size = w1.heap.size + 1 := by rw [hw]; simp
  replace HA := Lib.hid (HA.out.below hb)
  replace HT := Lib.hid (HT.out.trans (hb.mono hs))
  clear hs
  have hs := HT.out.size
  have HWw2 := Lib.hid hw
  clear hb hw
  clear hR
  go_wp2_with fail
  rw [← HWw2.out]
  (with_reducible refine (implQuotientOf_any _ l _ hsm HL.out.r).mono ?_)
  rintro e w3 ⟨r, rfl, hu, hb⟩
  obtain ⟨QU, qU, QT, qT, rfl⟩ := ownLab_form hu
  have hR := hu.rlab (small_quoR l)
  clear hu
  replace HA := Lib.hid (HA.out.below hb)
  replace HL := Lib.hid (HL.out.below hb)
  replace HT := Lib.hid (HT.out.trans (hb.mono hs))
  clear hs
  have hs := HT.out.size
  clear hb
  obtain ⟨w4, hw⟩ : ∃ W, W = w3.alloc (.cells #[.slice QU (quoR l).shows.length qU, .slice QT (quoR l).steps.length qT] 27) := ⟨_, rfl⟩
  have hb := below_new hw
  have h0 := At.new hw hR
  have HQ := Lib.hid h0
  clear h0
  have hzw4 : w4.heap.size = w3.heap.size + 1 := by rw [hw]; simp
  replace HA := Lib.hid (HA.out.below hb)
  replace HL := Lib.hid (HL.out.below hb)
  replace HT := Lib.hid (HT.out.trans (hb.mono hs))
  clear hs
  have hs := HT.out.size
  have HWw4 := Lib.hid hw
  clear hb hw
  clear hR
  obtain ⟨c0_0, c0_1⟩ := HL.out.cells
  rw [HWw4.out] at c0_0 c0_1
  go_wp2_with fail
  clear c0_0 c0_1
  rw [← HWw4.out]
  (with_reducible refine (specQuotientOf_any _ l _ hsm HL.out.r).mono ?_)
  rintro e w5 ⟨r, rfl, hu, hb⟩
  obtain ⟨KU, kU, KT, kT, rfl⟩ := ownLab_form hu
  have hR := hu.rlab (small_quoR l)
  clear hu
  replace HA := Lib.hid (HA.out.below hb)
  replace HL := Lib.hid (HL.out.below hb)
  replace HQ := Lib.hid (HQ.out.below hb)
  replace HT := Lib.hid (HT.out.trans (hb.mono hs))
  clear hs
  have hs := HT.out.size
  clear hb
  obtain ⟨w6, hw⟩ : ∃ W, W = w5.alloc (.cells #[.slice KU (quoR l).shows.length kU, .slice KT (quoR l).steps.length kT] 27) := ⟨_, rfl⟩
  have hb := below_new hw
  have h0 := At.new hw hR
  have HK := Lib.hid h0
  clear h0
  have hzw6 : w6.heap.size = w5.heap.size + 1 := by rw [hw]; simp
  replace HA := Lib.hid (HA.out.below hb)
  replace HL := Lib.hid (HL.out.below hb)
  replace HQ := Lib.hid (HQ.out.below hb)
  replace HT := Lib.hid (HT.out.trans (hb.mono hs))
  clear hs
  have hs := HT.out.size
  have HWw6 := Lib.hid hw
  clear hb hw
  clear hR
  go_wp2_with fail
  rw [← HWw6.out]
  (with_reducible refine (show Calls Tryz.prog 31 #[.slice A bs.length c, .int .i64 1] _ _ from vCut_any A bs c 1 _ HA.out HRNG.out hcap (by omega) (by omega)).mono ?_)
  rintro e w7 ⟨A2, c2, bs2, rfl, hA2, hrng2, hlen2, hb⟩
  have HA2 := Lib.hid hA2
  have HR2 := Lib.hid hrng2
  clear hA2 hrng2
  replace HA := Lib.hid (HA.out.below hb)
  replace HL := Lib.hid (HL.out.below hb)
  replace HQ := Lib.hid (HQ.out.below hb)
  replace HK := Lib.hid (HK.out.below hb)
  replace HT := Lib.hid (HT.out.trans (hb.mono hs))
  clear hs
  have hs := HT.out.size
  clear hb
  go_wp2_with fail
  (with_reducible refine (drawUnionOf_any A2 bs2 c2 _ HA2.out HR2.out (by omega)).mono ?_)
  rintro e w8 ⟨u, v, y, z, rfl, hD, hE, hb⟩
  clear HA2 HR2
  obtain ⟨a, BU, dU, BT, dT, hsa, hza, rfl, rfl, hRa⟩ := hD.open_
  obtain ⟨b, DU, eU, DT, eT, hsb, hzb, rfl, rfl, hRb⟩ := hE.open_
  clear hD hE
  replace HA := Lib.hid (HA.out.below hb)
  replace HL := Lib.hid (HL.out.below hb)
  replace HQ := Lib.hid (HQ.out.below hb)
  replace HK := Lib.hid (HK.out.below hb)
  replace HT := Lib.hid (HT.out.trans (hb.mono hs))
  clear hs
  have hs := HT.out.size
  clear hb
  have HhRa := Lib.hid hRa
  clear hRa
  have HhRb := Lib.hid hRb
  clear hRb
  obtain ⟨w9, hw⟩ : ∃ W, W = w8.alloc (.cells #[.slice BU a.shows.length dU, .slice BT a.steps.length dT] 27) := ⟨_, rfl⟩
  have hb := below_new hw
  have h0 := At.new hw HhRa.out
  have HBa := Lib.hid h0
  clear h0
  have hzw9 : w9.heap.size = w8.heap.size + 1 := by rw [hw]; simp
  replace HA := Lib.hid (HA.out.below hb)
  replace HL := Lib.hid (HL.out.below hb)
  replace HQ := Lib.hid (HQ.out.below hb)
  replace HK := Lib.hid (HK.out.below hb)
  replace HhRa := Lib.hid (HhRa.out.below hb)
  replace HhRb := Lib.hid (HhRb.out.below hb)
  replace HT := Lib.hid (HT.out.trans (hb.mono hs))
  clear hs
  have hs := HT.out.size
  have HWw9 := Lib.hid hw
  clear hb hw
  clear HhRa
  obtain ⟨w10, hw⟩ : ∃ W, W = w9.alloc (.cells #[.slice DU b.shows.length eU, .slice DT b.steps.length eT] 27) := ⟨_, rfl⟩
  have hb := below_new hw
  have h0 := At.new hw HhRb.out
  rw [hzw9] at h0
  have HBb := Lib.hid h0
  clear h0
  have hzw10 : w10.heap.size = w9.heap.size + 1 := by rw [hw]; simp
  replace HA := Lib.hid (HA.out.below hb)
  replace HL := Lib.hid (HL.out.below hb)
  replace HQ := Lib.hid (HQ.out.below hb)
  replace HK := Lib.hid (HK.out.below hb)
  replace HhRb := Lib.hid (HhRb.out.below hb)
  replace HBa := Lib.hid (HBa.out.below hb)
  replace HT := Lib.hid (HT.out.trans (hb.mono hs))
  clear hs
  have hs := HT.out.size
  have HWw10 := Lib.hid hw
  clear hb hw
  clear HhRb
  clear HA
  go_wp2_with fail
  rw [← HWw9.out, ← HWw10.out]
  (with_reducible refine (implUnionOf_any _ _ a b _ hsa hsb HBa.out.r HBb.out.r).mono ?_)
  rintro e w11 ⟨r, rfl, hu, hb⟩
  obtain ⟨VU, vU, VT, vT, rfl⟩ := ownLab_form hu
  have hR := hu.rlab (small_union a b)
  clear hu
  replace HL := Lib.hid (HL.out.below hb)
  replace HQ := Lib.hid (HQ.out.below hb)
  replace HK := Lib.hid (HK.out.below hb)
  replace HBa := Lib.hid (HBa.out.below hb)
  replace HBb := Lib.hid (HBb.out.below hb)
  replace HT := Lib.hid (HT.out.trans (hb.mono hs))
  clear hs
  have hs := HT.out.size
  clear hb
  obtain ⟨w12, hw⟩ : ∃ W, W = w11.alloc (.cells #[.slice VU (unionR a b).shows.length vU, .slice VT (unionR a b).steps.length vT] 27) := ⟨_, rfl⟩
  have hb := below_new hw
  have h0 := At.new hw hR
  have HU := Lib.hid h0
  clear h0
  have hzw12 : w12.heap.size = w11.heap.size + 1 := by rw [hw]; simp
  replace HL := Lib.hid (HL.out.below hb)
  replace HQ := Lib.hid (HQ.out.below hb)
  replace HK := Lib.hid (HK.out.below hb)
  replace HBa := Lib.hid (HBa.out.below hb)
  replace HBb := Lib.hid (HBb.out.below hb)
  replace HT := Lib.hid (HT.out.trans (hb.mono hs))
  clear hs
  have hs := HT.out.size
  have HWw12 := Lib.hid hw
  clear hb hw
  clear hR
  obtain ⟨c0_0, c0_1⟩ := HBa.out.cells
  rw [HWw12.out] at c0_0 c0_1
  obtain ⟨c1_0, c1_1⟩ := HBb.out.cells
  rw [HWw12.out] at c1_0 c1_1
  go_wp2_with fail
  clear c0_0 c0_1
  clear c1_0 c1_1
  rw [← HWw12.out]
  (with_reducible refine (specUnionOf_any _ _ a b _ hsa hsb HBa.out.r HBb.out.r).mono ?_)
  rintro e w13 ⟨r, rfl, hu, hb⟩
  obtain ⟨XU, xU, XT, xT, rfl⟩ := ownLab_form hu
  have hR := hu.rlab (small_union a b)
  clear hu
  replace HL := Lib.hid (HL.out.below hb)
  replace HQ := Lib.hid (HQ.out.below hb)
  replace HK := Lib.hid (HK.out.below hb)
  replace HBa := Lib.hid (HBa.out.below hb)
  replace HBb := Lib.hid (HBb.out.below hb)
  replace HU := Lib.hid (HU.out.below hb)
  replace HT := Lib.hid (HT.out.trans (hb.mono hs))
  clear hs
  have hs := HT.out.size
  clear hb
  obtain ⟨w14, hw⟩ : ∃ W, W = w13.alloc (.cells #[.slice XU (unionR a b).shows.length xU, .slice XT (unionR a b).steps.length xT] 27) := ⟨_, rfl⟩
  have hb := below_new hw
  have h0 := At.new hw hR
  have HX := Lib.hid h0
  clear h0
  have hzw14 : w14.heap.size = w13.heap.size + 1 := by rw [hw]; simp
  replace HL := Lib.hid (HL.out.below hb)
  replace HQ := Lib.hid (HQ.out.below hb)
  replace HK := Lib.hid (HK.out.below hb)
  replace HBa := Lib.hid (HBa.out.below hb)
  replace HBb := Lib.hid (HBb.out.below hb)
  replace HU := Lib.hid (HU.out.below hb)
  replace HT := Lib.hid (HT.out.trans (hb.mono hs))
  clear hs
  have hs := HT.out.size
  have HWw14 := Lib.hid hw
  clear hb hw
  clear hR
  have hb1 : (goodLab l != goodLab l) = false := by rw [bne_self_eq_false]
  have hb2 : (okU a b != okU a b) = false := by rw [bne_self_eq_false]
  have HG1 := Lib.hid (fun (h : goodLab l = true) (i : Nat) (hi : i < (bisR (quoR l)).length) => quo_self h hi)
  have HG2 := Lib.hid (fun h => quo_side (l := l) h)
  have HG3 := Lib.hid (fun h => union_first (a := a) (b := b) h)
  have HG4 := Lib.hid (fun h => union_good (a := a) (b := b) h)
  have HG5 := Lib.hid (show okU a b = true → goodLab a = true from fun h => by unfold okU at h; simp only [Bool.and_eq_true] at h; exact h.1.1)
  have HG6 := Lib.hid (show goodLab l = true → quoR l = quoL l from fun hg => by unfold quoR; rw [if_pos hg])
  have HSQ := Lib.hid (small_quoR l)
  have HSU := Lib.hid (small_union a b)
  obtain ⟨c0_0, c0_1⟩ := HQ.out.cells
  rw [HWw14.out] at c0_0 c0_1
  obtain ⟨c1_0, c1_1⟩ := HK.out.cells
  rw [HWw14.out] at c1_0 c1_1
  go_wp2_with fail
  clear c0_0 c0_1
  clear c1_0 c1_1
  rw [← HWw14.out]
  (with_reducible refine (vLabelled_same _ _ (quoR l) _ HSQ.out HQ.out.r HK.out.r).mono ?_)
  rintro e w15 ⟨rfl, hb⟩
  replace HL := Lib.hid (HL.out.below hb)
  replace HQ := Lib.hid (HQ.out.below hb)
  replace HK := Lib.hid (HK.out.below hb)
  replace HBa := Lib.hid (HBa.out.below hb)
  replace HBb := Lib.hid (HBb.out.below hb)
  replace HU := Lib.hid (HU.out.below hb)
  replace HX := Lib.hid (HX.out.below hb)
  replace HT := Lib.hid (HT.out.trans (hb.mono hs))
  clear hs
  have hs := HT.out.size
  clear hb
  clear HK
  obtain ⟨c0_0, c0_1⟩ := HU.out.cells
  obtain ⟨c1_0, c1_1⟩ := HX.out.cells
  go_wp2_with fail
  clear c0_0 c0_1
  clear c1_0 c1_1
  (with_reducible refine (vLabelled_same _ _ (unionR a b) _ HSU.out HU.out.r HX.out.r).mono ?_)
  rintro e w16 ⟨rfl, hb⟩
  replace HL := Lib.hid (HL.out.below hb)
  replace HQ := Lib.hid (HQ.out.below hb)
  replace HBa := Lib.hid (HBa.out.below hb)
  replace HBb := Lib.hid (HBb.out.below hb)
  replace HU := Lib.hid (HU.out.below hb)
  replace HX := Lib.hid (HX.out.below hb)
  replace HT := Lib.hid (HT.out.trans (hb.mono hs))
  clear hs
  have hs := HT.out.size
  clear hb
  clear HX
  clear hb1 hb2
  cases hf : okU a b
  · clear HG3 HG4 HG5 HSU
    clear HBa
    clear HBb
    clear HU
    cases hg : goodLab l
    · clear HG1 HG2
      go_wp2_with fail
      go_ret
      exact ⟨rfl, HT.out⟩
    · have HG1 := Lib.hid (HG1.out hg)
      have HG2 := Lib.hid (HG2.out hg)
      have HLN := Lib.hid (bisR_at hg).1
      obtain ⟨c0_0, c0_1⟩ := HL.out.cells
      go_wp2_with fail
      clear c0_0 c0_1
      (with_reducible refine (implBisimilarOf_any _ l _ hsm HL.out.r).mono ?_)
      rintro e w17 ⟨r, rfl, hr, hb⟩
      obtain ⟨AC, cC, rfl, hr⟩ := owns_form hr
      replace HL := Lib.hid (HL.out.below hb)
      replace HQ := Lib.hid (HQ.out.below hb)
      replace HT := Lib.hid (HT.out.trans (hb.mono hs))
      clear hs
      have hs := HT.out.size
      clear hb
      rw [hg]
      have hC := Cells.of_owns hr
      clear hr
      have HhC := Lib.hid hC
      clear hC
      obtain ⟨c0_0, c0_1⟩ := HQ.out.cells
      go_wp2_with fail
      clear c0_0 c0_1
      (with_reducible refine (implBisimilarOf_any _ (quoR l) _ HSQ.out HQ.out.r).mono ?_)
      rintro e w18 ⟨r, rfl, hr, hb⟩
      obtain ⟨AO, cO, rfl, hr⟩ := owns_form hr
      replace HL := Lib.hid (HL.out.below hb)
      replace HQ := Lib.hid (HQ.out.below hb)
      replace HhC := Lib.hid (HhC.out.below hb)
      replace HT := Lib.hid (HT.out.trans (hb.mono hs))
      clear hs
      have hs := HT.out.size
      clear hb
      have hO := Cells.of_owns hr
      clear hr
      have HhO := Lib.hid hO
      clear hO
      have hCn := bisR_len l
      have hOn := bisR_len (quoR l)
      have hgO : ∀ i, i < (bisR (quoR l)).length → (bisR (quoR l)).getD i 0 = (i : Int) := HG1.out
      have HGO := Lib.hid hgO
      clear hgO HG1
      obtain ⟨O, hOe⟩ : ∃ O, O = bisR (quoR l) := ⟨_, rfl⟩
      rw [← hOe] at HhO hOn HGO ⊢
      clear hOe
      go_wp2_with fail
      go_loopw [22] (fun i wr => ∃ k : Nat, k ≤ O.length ∧ i = .int .i64 k ∧ w18 = wr)
        (fun i _ => O.length - (intOf i).toNat)
      case atStart => exact ⟨0, Nat.zero_le _, rfl, rfl⟩
      case round =>
        obtain ⟨k, hk, rfl, rfl⟩ := hrel
        by_cases hlt : k < O.length
        · obtain ⟨b', o', rfl, hc⟩ := HhO.out.int hlt
          have hck := hc k hlt
          rw [HGO.out k hlt] at hck
          clear hc
          have hkk : ((k : Int) != (k : Int)) = false := by rw [bne_self_eq_false]
          go_wp2_with fail
          go_roundw
          case rel => exact ⟨k + 1, by omega, by go_num, by first | rfl | trivial⟩
          case measure => simp [intOf]; omega
        · obtain rfl : k = O.length := by omega
          clear HhO
          clear HGO
          obtain ⟨c0_0, c0_1⟩ := HL.out.cells
          obtain ⟨c1_0, c1_1⟩ := HQ.out.cells
          go_wp2_with fail
          clear c0_0 c0_1
          clear c1_0 c1_1
          (with_reducible refine (implUnionOf_any _ _ l (quoR l) _ hsm HSQ.out HL.out.r HQ.out.r).mono ?_)
          rintro e w19 ⟨r, rfl, hu, hb⟩
          obtain ⟨MU, mU, MT, mT, rfl⟩ := ownLab_form hu
          have hR := hu.rlab (small_union l (quoR l))
          clear hu
          replace HL := Lib.hid (HL.out.below hb)
          replace HQ := Lib.hid (HQ.out.below hb)
          replace HhC := Lib.hid (HhC.out.below hb)
          replace HT := Lib.hid (HT.out.trans (hb.mono hs))
          clear hs
          have hs := HT.out.size
          clear hb
          obtain ⟨w20, hw⟩ : ∃ W, W = w19.alloc (.cells #[.slice MU (unionR l (quoR l)).shows.length mU, .slice MT (unionR l (quoR l)).steps.length mT] 27) := ⟨_, rfl⟩
          have hb := below_new hw
          have h0 := At.new hw hR
          have HM := Lib.hid h0
          clear h0
          have hzw20 : w20.heap.size = w19.heap.size + 1 := by rw [hw]; simp
          replace HL := Lib.hid (HL.out.below hb)
          replace HQ := Lib.hid (HQ.out.below hb)
          replace HhC := Lib.hid (HhC.out.below hb)
          replace HT := Lib.hid (HT.out.trans (hb.mono hs))
          clear hs
          have hs := HT.out.size
          have HWw20 := Lib.hid hw
          clear hb hw
          clear hR
          cases hk2 : okU l (quoR l)
          · clear HG2
            go_wp2_with fail
            go_ret
            rw [← HWw20.out]
            exact ⟨rfl, HT.out⟩
          · obtain ⟨hDn, hD⟩ := HG2.out hk2
            clear HG2
            go_wp2_with fail
            rw [← HWw20.out]
            (with_reducible refine (implBisimilarOf_any _ (unionR l (quoR l)) _ (small_union l (quoR l)) HM.out.r).mono ?_)
            rintro e w21 ⟨r, rfl, hr, hb⟩
            obtain ⟨AD, cD, rfl, hr⟩ := owns_form hr
            have hDc := Cells.of_owns hr
            clear hr
            replace HL := Lib.hid (HL.out.below hb)
            replace HQ := Lib.hid (HQ.out.below hb)
            replace HhC := Lib.hid (HhC.out.below hb)
            replace HM := Lib.hid (HM.out.below hb)
            replace HT := Lib.hid (HT.out.trans (hb.mono hs))
            clear hs
            have hs := HT.out.size
            clear hb
            have HhDc := Lib.hid hDc
            clear hDc
            clear HM
            have hDl := bisR_len (unionR l (quoR l))
            have HD := Lib.hid hD
            have HDN := Lib.hid hDn
            clear hD
            have HQL := Lib.hid (show (quoR l).shows.length = (repsI l).length by rw [HG6.out hg, quo_len])
            have hq40 : (quoR l).shows.length ≤ 40 := by have := HDN.out; have := HQL.out; omega
            have hl1 := HLN.out
            have hCe : bisR l = lastL l := by unfold bisR; rw [if_pos hg]
            obtain ⟨D, hDe⟩ : ∃ D, D = bisR (unionR l (quoR l)) := ⟨_, rfl⟩
            rw [← hDe] at HhDc hDl HD HDN hDn ⊢
            obtain ⟨C, hCe2⟩ : ∃ C, C = bisR l := ⟨_, rfl⟩
            rw [← hCe2] at HhC hCn hl1 hCe ⊢
            clear HLN
            have HREP := Lib.hid (show ∀ k, isRep l k = (C.getD k 0 == (k : Int)) from fun k => by rw [hCe]; rfl)
            have HL1 := Lib.hid hl1
            have HSTEP := Lib.hid (show ∀ k, k < C.length → posR l (k + 1) = posR l k + (if isRep l k then 1 else 0) from fun k _ => posR_next l k)
            have HALL := Lib.hid (show posR l C.length = (repsI l).length by rw [hl1]; exact posR_all l)
            have HLE := Lib.hid (show ∀ k, posR l k ≤ k from posR_le l)
            have HAT := Lib.hid (show ∀ k, k < C.length → isRep l k = true → D.getD (C.length + posR l k) 0 = (k : Int) ∧ posR l k < (repsI l).length from fun k hk hr => by
              have h1 := reps_at l (show k < l.shows.length by omega) hr
              exact ⟨by rw [hl1]; exact HD.out _ _ h1, (List.getElem?_eq_some_iff.1 h1).1⟩)
            clear hDe hCe hCe2 hl1 hDn HD
            obtain ⟨c0_0, c0_1⟩ := HQ.out.cells
            have HC00 := Lib.hid c0_0
            clear c0_0 c0_1
            go_wp2_with fail
            go_loopw [27, 28] (fun t i wr => ∃ k : Nat, k ≤ C.length ∧ i = .int .i64 k ∧ t = .int .i64 (posR l k) ∧ w21 = wr)
              (fun _ i _ => C.length - (intOf i).toNat)
            case atStart => exact ⟨0, Nat.zero_le _, rfl, rfl, rfl⟩
            case round =>
              obtain ⟨k, hk, rfl, rfl, rfl⟩ := hrel
              have hp := HLE.out k
              by_cases hlt : k < C.length
              · obtain ⟨b', o', rfl, hc⟩ := HhC.out.int hlt
                have hck := hc k hlt
                clear hc
                have HRK := Lib.hid (HREP.out k)
                have HNX := Lib.hid (HSTEP.out k hlt)
                have HAK := Lib.hid (HAT.out k hlt)
                cases hr : isRep l k
                · have hne : (C.getD k 0 == (k : Int)) = false := by rw [← HRK.out]; exact hr
                  have e : posR l (k + 1) = posR l k := by rw [HNX.out, hr]; simp
                  have HE := Lib.hid e
                  generalize C.getD k 0 = x at *
                  clear e hr
                  go_wp2_with fail
                  go_roundw
                  case rel => exact ⟨k + 1, by omega, by go_num, by rw [HE.out], by first | rfl | trivial⟩
                  case measure => simp [intOf]; omega
                · have he : C.getD k 0 = (k : Int) := by have := HRK.out; rw [hr] at this; simpa using this.symm
                  have e : posR l (k + 1) = posR l k + 1 := by rw [HNX.out, hr]; simp
                  have HE := Lib.hid e
                  obtain ⟨hd, hpl⟩ := HAK.out hr
                  have hdl : C.length + posR l k < D.length := by have := HDN.out; have := HL1.out; omega
                  obtain ⟨b2, o2, rfl, hc2⟩ := HhDc.out.int hdl
                  have hcd := hc2 _ hdl
                  rw [hd] at hcd
                  rw [he] at hck
                  have hkk : ((k : Int) != (k : Int)) = false := by rw [bne_self_eq_false]
                  clear e hr hc2 hd he
                  generalize posR l k = q at *
                  go_wp2_with fail
                  go_roundw
                  case rel => exact ⟨k + 1, by omega, by go_num, by rw [HE.out]; go_num, by first | rfl | trivial⟩
                  case measure => simp [intOf]; omega
              · obtain rfl : k = C.length := by omega
                have hq : posR l C.length = (quoR l).shows.length := by rw [HALL.out, HQL.out]
                rw [hq]
                have c0_0 := HC00.out
                have hkk : (((quoR l).shows.length : Int) == ((quoR l).shows.length : Int)) = true := by simp
                clear hq hp
                go_wp2_with fail
                go_ret
                exact ⟨rfl, HT.out⟩
  · have hga := HG5.out hf
    obtain ⟨ht1, ht2⟩ := HG3.out hf
    have hgu := HG4.out hf
    clear HG3 HG4 HG5
    obtain ⟨c0_0, c0_1⟩ := HBa.out.cells
    go_wp2_with fail
    clear c0_0 c0_1
    (with_reducible refine (implBisimilarOf_any _ a _ hsa HBa.out.r).mono ?_)
    rintro e w22 ⟨r, rfl, hr, hb⟩
    obtain ⟨AP, cP, rfl, hr⟩ := owns_form hr
    replace HL := Lib.hid (HL.out.below hb)
    replace HQ := Lib.hid (HQ.out.below hb)
    replace HBa := Lib.hid (HBa.out.below hb)
    replace HBb := Lib.hid (HBb.out.below hb)
    replace HU := Lib.hid (HU.out.below hb)
    replace HT := Lib.hid (HT.out.trans (hb.mono hs))
    clear hs
    have hs := HT.out.size
    clear hb
    have hP := Cells.of_owns hr
    clear hr
    have HhP := Lib.hid hP
    clear hP
    clear HBa
    clear HBb
    obtain ⟨c0_0, c0_1⟩ := HU.out.cells
    go_wp2_with fail
    clear c0_0 c0_1
    (with_reducible refine (implBisimilarOf_any _ (unionR a b) _ HSU.out HU.out.r).mono ?_)
    rintro e w23 ⟨r, rfl, hr, hb⟩
    obtain ⟨AR, cR, rfl, hr⟩ := owns_form hr
    replace HL := Lib.hid (HL.out.below hb)
    replace HQ := Lib.hid (HQ.out.below hb)
    replace HU := Lib.hid (HU.out.below hb)
    replace HhP := Lib.hid (HhP.out.below hb)
    replace HT := Lib.hid (HT.out.trans (hb.mono hs))
    clear hs
    have hs := HT.out.size
    clear hb
    rw [hgu]
    obtain ⟨gR, rfl, hcR⟩ := owns_cap hr (bisR_pos hgu)
    have hR' := Cells.of_owns hr
    have hPn := bisR_len a
    have hPR : Cells _ (some ⟨gR, 0, none⟩) (ints (bisR a)) := ht1 ▸ cells_takeI hR' (bisR a).length
    clear hr hR' hgu ht1
    have HhPR := Lib.hid hPR
    clear hPR
    clear HU
    have hcP : ((bisR a).length : Int) ≤ (cR : Int) := by omega
    have hSI := sameI_refl (bisR a)
    generalize bisR a = R1 at *
    generalize bisR (unionR a b) = R2 at *
    go_wp2_with fail
    (with_reducible refine (vInts_any AP (some ⟨gR, 0, none⟩) cP cR R1 R1 _ (by omega) (by omega) HhP.out HhPR.out).mono ?_)
    rintro e w24 ⟨rfl, hb⟩
    replace HL := Lib.hid (HL.out.below hb)
    replace HQ := Lib.hid (HQ.out.below hb)
    replace HhP := Lib.hid (HhP.out.below hb)
    replace HhPR := Lib.hid (HhPR.out.below hb)
    replace HT := Lib.hid (HT.out.trans (hb.mono hs))
    clear hs
    have hs := HT.out.size
    clear hb
    rw [hSI]
    clear hSI hcP
    clear HhP
    clear HhPR
    cases hg : goodLab l
    · clear HG1 HG2
      go_wp2_with fail
      go_ret
      exact ⟨rfl, HT.out⟩
    · have HG1 := Lib.hid (HG1.out hg)
      have HG2 := Lib.hid (HG2.out hg)
      have HLN := Lib.hid (bisR_at hg).1
      obtain ⟨c0_0, c0_1⟩ := HL.out.cells
      go_wp2_with fail
      clear c0_0 c0_1
      (with_reducible refine (implBisimilarOf_any _ l _ hsm HL.out.r).mono ?_)
      rintro e w25 ⟨r, rfl, hr, hb⟩
      obtain ⟨AC, cC, rfl, hr⟩ := owns_form hr
      replace HL := Lib.hid (HL.out.below hb)
      replace HQ := Lib.hid (HQ.out.below hb)
      replace HT := Lib.hid (HT.out.trans (hb.mono hs))
      clear hs
      have hs := HT.out.size
      clear hb
      rw [hg]
      have hC := Cells.of_owns hr
      clear hr
      have HhC := Lib.hid hC
      clear hC
      obtain ⟨c0_0, c0_1⟩ := HQ.out.cells
      go_wp2_with fail
      clear c0_0 c0_1
      (with_reducible refine (implBisimilarOf_any _ (quoR l) _ HSQ.out HQ.out.r).mono ?_)
      rintro e w26 ⟨r, rfl, hr, hb⟩
      obtain ⟨AO, cO, rfl, hr⟩ := owns_form hr
      replace HL := Lib.hid (HL.out.below hb)
      replace HQ := Lib.hid (HQ.out.below hb)
      replace HhC := Lib.hid (HhC.out.below hb)
      replace HT := Lib.hid (HT.out.trans (hb.mono hs))
      clear hs
      have hs := HT.out.size
      clear hb
      have hO := Cells.of_owns hr
      clear hr
      have HhO := Lib.hid hO
      clear hO
      have hCn := bisR_len l
      have hOn := bisR_len (quoR l)
      have hgO : ∀ i, i < (bisR (quoR l)).length → (bisR (quoR l)).getD i 0 = (i : Int) := HG1.out
      have HGO := Lib.hid hgO
      clear hgO HG1
      obtain ⟨O, hOe⟩ : ∃ O, O = bisR (quoR l) := ⟨_, rfl⟩
      rw [← hOe] at HhO hOn HGO ⊢
      clear hOe
      go_wp2_with fail
      go_loopw [22] (fun i wr => ∃ k : Nat, k ≤ O.length ∧ i = .int .i64 k ∧ w26 = wr)
        (fun i _ => O.length - (intOf i).toNat)
      case atStart => exact ⟨0, Nat.zero_le _, rfl, rfl⟩
      case round =>
        obtain ⟨k, hk, rfl, rfl⟩ := hrel
        by_cases hlt : k < O.length
        · obtain ⟨b', o', rfl, hc⟩ := HhO.out.int hlt
          have hck := hc k hlt
          rw [HGO.out k hlt] at hck
          clear hc
          have hkk : ((k : Int) != (k : Int)) = false := by rw [bne_self_eq_false]
          go_wp2_with fail
          go_roundw
          case rel => exact ⟨k + 1, by omega, by go_num, by first | rfl | trivial⟩
          case measure => simp [intOf]; omega
        · obtain rfl : k = O.length := by omega
          clear HhO
          clear HGO
          obtain ⟨c0_0, c0_1⟩ := HL.out.cells
          obtain ⟨c1_0, c1_1⟩ := HQ.out.cells
          go_wp2_with fail
          clear c0_0 c0_1
          clear c1_0 c1_1
          (with_reducible refine (implUnionOf_any _ _ l (quoR l) _ hsm HSQ.out HL.out.r HQ.out.r).mono ?_)
          rintro e w27 ⟨r, rfl, hu, hb⟩
          obtain ⟨MU, mU, MT, mT, rfl⟩ := ownLab_form hu
          have hR := hu.rlab (small_union l (quoR l))
          clear hu
          replace HL := Lib.hid (HL.out.below hb)
          replace HQ := Lib.hid (HQ.out.below hb)
          replace HhC := Lib.hid (HhC.out.below hb)
          replace HT := Lib.hid (HT.out.trans (hb.mono hs))
          clear hs
          have hs := HT.out.size
          clear hb
          obtain ⟨w28, hw⟩ : ∃ W, W = w27.alloc (.cells #[.slice MU (unionR l (quoR l)).shows.length mU, .slice MT (unionR l (quoR l)).steps.length mT] 27) := ⟨_, rfl⟩
          have hb := below_new hw
          have h0 := At.new hw hR
          have HM := Lib.hid h0
          clear h0
          have hzw28 : w28.heap.size = w27.heap.size + 1 := by rw [hw]; simp
          replace HL := Lib.hid (HL.out.below hb)
          replace HQ := Lib.hid (HQ.out.below hb)
          replace HhC := Lib.hid (HhC.out.below hb)
          replace HT := Lib.hid (HT.out.trans (hb.mono hs))
          clear hs
          have hs := HT.out.size
          have HWw28 := Lib.hid hw
          clear hb hw
          clear hR
          cases hk2 : okU l (quoR l)
          · clear HG2
            go_wp2_with fail
            go_ret
            rw [← HWw28.out]
            exact ⟨rfl, HT.out⟩
          · obtain ⟨hDn, hD⟩ := HG2.out hk2
            clear HG2
            go_wp2_with fail
            rw [← HWw28.out]
            (with_reducible refine (implBisimilarOf_any _ (unionR l (quoR l)) _ (small_union l (quoR l)) HM.out.r).mono ?_)
            rintro e w29 ⟨r, rfl, hr, hb⟩
            obtain ⟨AD, cD, rfl, hr⟩ := owns_form hr
            have hDc := Cells.of_owns hr
            clear hr
            replace HL := Lib.hid (HL.out.below hb)
            replace HQ := Lib.hid (HQ.out.below hb)
            replace HhC := Lib.hid (HhC.out.below hb)
            replace HM := Lib.hid (HM.out.below hb)
            replace HT := Lib.hid (HT.out.trans (hb.mono hs))
            clear hs
            have hs := HT.out.size
            clear hb
            have HhDc := Lib.hid hDc
            clear hDc
            clear HM
            have hDl := bisR_len (unionR l (quoR l))
            have HD := Lib.hid hD
            have HDN := Lib.hid hDn
            clear hD
            have HQL := Lib.hid (show (quoR l).shows.length = (repsI l).length by rw [HG6.out hg, quo_len])
            have hq40 : (quoR l).shows.length ≤ 40 := by have := HDN.out; have := HQL.out; omega
            have hl1 := HLN.out
            have hCe : bisR l = lastL l := by unfold bisR; rw [if_pos hg]
            obtain ⟨D, hDe⟩ : ∃ D, D = bisR (unionR l (quoR l)) := ⟨_, rfl⟩
            rw [← hDe] at HhDc hDl HD HDN hDn ⊢
            obtain ⟨C, hCe2⟩ : ∃ C, C = bisR l := ⟨_, rfl⟩
            rw [← hCe2] at HhC hCn hl1 hCe ⊢
            clear HLN
            have HREP := Lib.hid (show ∀ k, isRep l k = (C.getD k 0 == (k : Int)) from fun k => by rw [hCe]; rfl)
            have HL1 := Lib.hid hl1
            have HSTEP := Lib.hid (show ∀ k, k < C.length → posR l (k + 1) = posR l k + (if isRep l k then 1 else 0) from fun k _ => posR_next l k)
            have HALL := Lib.hid (show posR l C.length = (repsI l).length by rw [hl1]; exact posR_all l)
            have HLE := Lib.hid (show ∀ k, posR l k ≤ k from posR_le l)
            have HAT := Lib.hid (show ∀ k, k < C.length → isRep l k = true → D.getD (C.length + posR l k) 0 = (k : Int) ∧ posR l k < (repsI l).length from fun k hk hr => by
              have h1 := reps_at l (show k < l.shows.length by omega) hr
              exact ⟨by rw [hl1]; exact HD.out _ _ h1, (List.getElem?_eq_some_iff.1 h1).1⟩)
            clear hDe hCe hCe2 hl1 hDn HD
            obtain ⟨c0_0, c0_1⟩ := HQ.out.cells
            have HC00 := Lib.hid c0_0
            clear c0_0 c0_1
            go_wp2_with fail
            go_loopw [27, 28] (fun t i wr => ∃ k : Nat, k ≤ C.length ∧ i = .int .i64 k ∧ t = .int .i64 (posR l k) ∧ w29 = wr)
              (fun _ i _ => C.length - (intOf i).toNat)
            case atStart => exact ⟨0, Nat.zero_le _, rfl, rfl, rfl⟩
            case round =>
              obtain ⟨k, hk, rfl, rfl, rfl⟩ := hrel
              have hp := HLE.out k
              by_cases hlt : k < C.length
              · obtain ⟨b', o', rfl, hc⟩ := HhC.out.int hlt
                have hck := hc k hlt
                clear hc
                have HRK := Lib.hid (HREP.out k)
                have HNX := Lib.hid (HSTEP.out k hlt)
                have HAK := Lib.hid (HAT.out k hlt)
                cases hr : isRep l k
                · have hne : (C.getD k 0 == (k : Int)) = false := by rw [← HRK.out]; exact hr
                  have e : posR l (k + 1) = posR l k := by rw [HNX.out, hr]; simp
                  have HE := Lib.hid e
                  generalize C.getD k 0 = x at *
                  clear e hr
                  go_wp2_with fail
                  go_roundw
                  case rel => exact ⟨k + 1, by omega, by go_num, by rw [HE.out], by first | rfl | trivial⟩
                  case measure => simp [intOf]; omega
                · have he : C.getD k 0 = (k : Int) := by have := HRK.out; rw [hr] at this; simpa using this.symm
                  have e : posR l (k + 1) = posR l k + 1 := by rw [HNX.out, hr]; simp
                  have HE := Lib.hid e
                  obtain ⟨hd, hpl⟩ := HAK.out hr
                  have hdl : C.length + posR l k < D.length := by have := HDN.out; have := HL1.out; omega
                  obtain ⟨b2, o2, rfl, hc2⟩ := HhDc.out.int hdl
                  have hcd := hc2 _ hdl
                  rw [hd] at hcd
                  rw [he] at hck
                  have hkk : ((k : Int) != (k : Int)) = false := by rw [bne_self_eq_false]
                  clear e hr hc2 hd he
                  generalize posR l k = q at *
                  go_wp2_with fail
                  go_roundw
                  case rel => exact ⟨k + 1, by omega, by go_num, by rw [HE.out]; go_num, by first | rfl | trivial⟩
                  case measure => simp [intOf]; omega
              · obtain rfl : k = C.length := by omega
                have hq : posR l C.length = (quoR l).shows.length := by rw [HALL.out, HQL.out]
                rw [hq]
                have c0_0 := HC00.out
                have hkk : (((quoR l).shows.length : Int) == ((quoR l).shows.length : Int)) = true := by simp
                clear hq hp
                go_wp2_with fail
                go_ret
                exact ⟨rfl, HT.out⟩

end Go.Proofs.YtdgnhfhaaghoaaaGreatDoor
