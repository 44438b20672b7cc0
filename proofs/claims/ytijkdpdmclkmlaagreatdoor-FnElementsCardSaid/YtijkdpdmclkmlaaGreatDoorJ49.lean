/- The law of elements walked: it answers true for each code. -/
import Derived.Test.YtijkdpdmclkmlaaGreatDoorProg
import Derived.Test.YtijkdpdmclkmlaaGreatDoorJ22
import Derived.Test.YtijkdpdmclkmlaaGreatDoorJ31
import Derived.Test.YtijkdpdmclkmlaaGreatDoorJ33
import Derived.Test.YtijkdpdmclkmlaaGreatDoorJ46
import Derived.Test.YtijkdpdmclkmlaaGreatDoorJ47
import Derived.Test.YtijkdpdmclkmlaaGreatDoorJ48
import Derived.Test.YtijkdpdmclkmlaaGreatDoorJ21
import Derived.Test.YtijkdpdmclkmlaaGreatDoorJ45
import Derived.Test.YtijkdpdmclkmlaaGreatDoorJ29
import Derived.BigQuiet
set_option linter.unusedSimpArgs false
set_option linter.unusedVariables false
set_option maxRecDepth 100000
set_option maxHeartbeats 16000000
namespace Go.Proofs.YtijkdpdmclkmlaaGreatDoor
open Go.RowKit
theorem sigK_reads {V : World} {k : Nat} (h : V.heap[k]? = some (.cells #[.string ⟨#[107]⟩, .int .i64 0, .int .i64 0] 44)) : RSl RCt 3 V (.slice (some ⟨k, 0, none⟩) 1 1) sigK :=
 ct_rsl (B := k) (e := 44) ⟨rfl, .inr ⟨k, 1, _, rfl, Nat.le_refl _, h, Nat.le_refl _, by decide, rfl, rfl⟩⟩ (by decide)
theorem sigK_cap (g : Nat) : CapOk (.slice (some ⟨g, 0, none⟩) 1 1) := by
 rintro A n c e
 cases e
 decide
theorem sigK_small : SmallS sigK := by
 refine ⟨by decide, fun c hc => ?_⟩
 have : c = (⟨#[107]⟩, 0, 0) := by simpa [sigK] using hc
 subst this; decide
theorem barG_small {n : Int} (h : -1000 ≤ n ∧ n ≤ 1000) : SmallG (barG n) := small_places _ _ h (Nat.zero_le _) fun p hp => (nomatch hp)
section
variable {o : Bool} {g h : Gr} {n m k : Int} {l : List ByteArray} {t : List Int}
theorem elI (ho : o = (inB n 0 4 && namesB l)) (h : o = true) (hg : g = if o then idG n.toNat l else zeroG) : identR sigK g = true := by
 rw [h] at ho
 have ho := ho.symm
 rw [Bool.and_eq_true] at ho
 have := inB_true ho.1
 rw [hg, h, if_pos rfl]; exact el_id (by omega) ho.2
theorem elP (ho : o = (decide (t.length ≤ 4) && orderB t.length t)) (h : o = true) (hg : g = if o then permG t else zeroG) : permR sigK g = true := by
 rw [h] at ho
 have ho := ho.symm
 rw [Bool.and_eq_true, decide_eq_true_eq] at ho
 rw [hg, h, if_pos rfl]; exact el_perm ho.1 ho.2
theorem elM (ho : o = inB n 0 4) (h : o = true) (hg : g = if o then mergeG n.toNat else zeroG) : placR sigK g = true ∧ primR sigK g = true := by
 rw [h] at ho
 have := inB_true ho.symm
 rw [hg, h, if_pos rfl]; exact el_merge (by omega)
theorem elR (ho : o = inB n 0 4) (h : o = true) (hg : g = if o then barG n else zeroG) : placR sigK g = true := by
 rw [h] at ho
 have := inB_true ho.symm
 rw [hg, h, if_pos rfl]; exact el_bar (by omega) (by omega)
theorem swap_range (h : swapOk m k = true) : (0 ≤ m ∧ m ≤ 4) ∧ 0 ≤ k ∧ m + k ≤ 4 := by
 unfold swapOk at h
 rw [Bool.and_eq_true] at h
 have h1 := inB_true h.1
 have h2 := inB_true h.2
 omega
theorem swapG_small (h : swapOk m k = true) : SmallG (permG (swapL m.toNat k.toNat)) := by
 have := swap_range h
 exact permG_small (by rw [swapL_len]; omega) (fun x hx => by have := swapL_mem hx; omega)
theorem elK (ho : o = swapOk m k) (h : o = true) : swapOk k m = true ∧ 0 ≤ k ∧ k ≤ 4 := by
 rw [h] at ho
 have := swap_range ho.symm
 refine ⟨?_, by omega, by omega⟩
 unfold swapOk inB
 simp only [Bool.and_eq_true, decide_eq_true_eq]
 omega
theorem elS (ho : o = swapOk m k) (h : o = true) (hg : g = if o then permG (swapL m.toNat k.toNat) else zeroG) : permR sigK g = true := by
 rw [h] at ho
 have := swap_range ho.symm
 rw [hg, h, if_pos rfl]; exact el_swap_perm (by omega)
theorem elC (ho : o = swapOk m k) (h' : o = true) (hg : g = if o then permG (swapL m.toNat k.toNat) else zeroG) (hh : h = permG (swapL k.toNat m.toNat)) : compR sigK h g = true ∧ identR sigK (compG h g) = true := by
 rw [h'] at ho
 have := swap_range ho.symm
 rw [hg, h', if_pos rfl, hh]
 exact ⟨el_swap_comp (by omega), el_swap_id (by omega)⟩
end

theorem lawFnElements (A : Option Addr) (bs : List Int) (c : Nat) (w : World) (hA : Cells w A (u8s bs)) (hrng : ∀ x ∈ bs, 0 ≤ x ∧ x < 256) (hlen : bs.length ≤ maxLen) (hcap : bs.length ≤ c) :
    Calls Tryz.prog 3 #[.slice A bs.length c] w fun e w' => e = .returned (.bool true) ∧ Below w.heap.size w w' := by
  have HB := Lib.hid (vBig_any A bs.length c w hlen)
  by_cases hbig : 65536 < bs.length
  · rw [show decide (65536 < bs.length) = true from by simp [hbig]] at HB
    clear hbig hlen hA hrng
    go_enter Tryz.func3, Tryz.ntmps3
    go_wp2_with fail
    (with_reducible refine HB.out.mono ?_)
    rintro e w1 ⟨rfl, rfl⟩
    go_wp2_with fail
    go_ret
    exact ⟨rfl, Below.refl _ _⟩
  rw [show decide (65536 < bs.length) = false from by simp [hbig]] at HB
  have HLEN := Lib.hid (show bs.length ≤ 65536 from by omega)
  have HRNG := Lib.hid hrng
  have HCAP := Lib.hid hcap
  clear hcap
  have HA := Lib.hid ((stay_bel (Below.refl w.heap.size w)).and (stay_cells hA))
  clear hbig hlen hA hrng
  go_enter Tryz.func3, Tryz.ntmps3
  go_wp2_with fail
  (with_reducible refine HB.out.mono ?_)
  rintro e w' ⟨rfl, rfl⟩
  clear HB
  have HC := Lib.hid (drawIdentityOf_any A bs c _ (HA.out.now.2) HRNG.out (by have := HLEN.out; omega))
  go_wp2_with fail
  (with_reducible refine HC.out.mono ?_)
  rintro e v1 ⟨n, P1, d1, l1, rfl, hn, hll, hlz, hcl, hb⟩
  clear HC
  replace HA := Lib.hid ((HA.out.mono hb).and (stay_cells hcl))
  have HN := Lib.hid hn
  have HLL := Lib.hid hll
  have HLZ := Lib.hid hlz
  clear hn hll hlz hcl hb
  obtain ⟨oI, hoI⟩ : ∃ oI, oI = (inB n 0 4 && namesB l1) := ⟨_, rfl⟩
  obtain ⟨gI, hgI⟩ : ∃ gI, gI = (if oI then idG n.toNat l1 else zeroG) := ⟨_, rfl⟩
  have HOI := Lib.hid hoI
  have HGI := Lib.hid hgI
  have HSI := Lib.hid (show SmallG gI from by rw [HGI.out]; cases oI; exact zeroG_small; exact idG_small (by have := HN.out; omega) (by have := HLL.out; omega) (fun s hs => by have := HLZ.out s hs; omega))
  clear hoI hgI
  have hc := implIdentityOf_any n P1 d1 l1 _ (by have := HLL.out; omega) (fun s hs => by have := HLZ.out s hs; omega) (HA.out.now.2)
  rw [← HOI.out] at hc
  rw [← HGI.out] at hc
  have HC := Lib.hid hc
  clear hc
  go_wp2_with fail
  (with_reducible refine HC.out.mono ?_)
  rintro e v2 ⟨X, rfl, hXg, hr⟩
  clear HC
  obtain ⟨ANA, cNA, ASA, cSA, AOA, cOA, AIA, cIA, hcl, hrk, hb⟩ := rg_parts hr (show X.g = gI from hXg) (HSI.out)
  rw [hcl]
  replace HA := Lib.hid ((HA.out.mono hb).and (stay_gr hrk))
  clear hr hXg hcl hrk hb
  obtain ⟨v3, hv, hb, -, hbx⟩ := laid1 v2 (.cells #[.int .i64 gI.roots, .slice ANA gI.nodes.length cNA, .slice ASA gI.sites.length cSA, .int .i64 gI.edges, .slice AOA gI.outer.length cOA, .slice AIA gI.inner.length cIA] 31)
  have HNv3 := Lib.hid hv
  replace HA := Lib.hid ((HA.out.mono hb).and (stay_box hbx))
  clear hv hb hbx
  have hc := specIdentityOf_any n P1 d1 l1 _ (by have := HLL.out; omega) (fun s hs => by have := HLZ.out s hs; omega) (HA.out.now.1.1.2)
  rw [← HOI.out] at hc
  rw [← HGI.out] at hc
  have HC := Lib.hid hc
  clear hc
  go_wp2_with fail
  rw [← HNv3.out]
  (with_reducible refine HC.out.mono ?_)
  rintro e v4 ⟨X, rfl, hXg, hr⟩
  clear HC
  obtain ⟨ANB, cNB, ASB, cSB, AOB, cOB, AIB, cIB, hcl, hrk, hb⟩ := rg_parts hr (show X.g = gI from hXg) (HSI.out)
  rw [hcl]
  replace HA := Lib.hid ((HA.out.mono hb).and (stay_gr hrk))
  clear hr hXg hcl hrk hb
  obtain ⟨v5, hv, hb, -, hbx⟩ := laid1 v4 (.cells #[.int .i64 gI.roots, .slice ANB gI.nodes.length cNB, .slice ASB gI.sites.length cSB, .int .i64 gI.edges, .slice AOB gI.outer.length cOB, .slice AIB gI.inner.length cIB] 31)
  have HNv5 := Lib.hid hv
  replace HA := Lib.hid ((HA.out.mono hb).and (stay_box hbx))
  clear hv hb hbx
  have HC := Lib.hid (show Calls Tryz.prog 15 #[.slice A bs.length c, .int .i64 1] _ _ from vCut_any A bs c 1 _ (HA.out.now.1.1.1.1.1.2) HRNG.out HCAP.out (by have := HLEN.out; omega) (by omega))
  go_wp2_with fail
  rw [← HNv5.out]
  (with_reducible refine HC.out.mono ?_)
  rintro e v6 ⟨Ax, cx, bsx, rfl, hAx, hrngx, hlenx, hb⟩
  clear HC
  replace HA := Lib.hid ((HA.out.mono hb).and (stay_cells hAx))
  have HRNGx := Lib.hid hrngx
  have HLENx := Lib.hid hlenx
  clear hb hAx hrngx hlenx
  have HC := Lib.hid (drawPermutationOf_any Ax bsx cx _ (HA.out.now.2) HRNGx.out (by have := HLENx.out; have := HLEN.out; omega))
  go_wp2_with fail
  (with_reducible refine HC.out.mono ?_)
  rintro e v7 ⟨P2, d2, l2, rfl, hll, hlb, hcl, hb⟩
  clear HC
  replace HA := Lib.hid ((HA.out.mono hb).and (stay_cells hcl))
  have HL2 := Lib.hid hll
  have HB2 := Lib.hid hlb
  clear hll hlb hcl hb
  obtain ⟨oP, hoP⟩ : ∃ oP, oP = (decide (l2.length ≤ 4) && orderB l2.length l2) := ⟨_, rfl⟩
  have hoQ : oP = (decide (l2.length ≤ 4) && eachB l2 l2.length) := by rw [hoP, order_each]
  obtain ⟨gP, hgP⟩ : ∃ gP, gP = (if oP then permG l2 else zeroG) := ⟨_, rfl⟩
  have HOP := Lib.hid hoP
  have HOQ := Lib.hid hoQ
  have HGP := Lib.hid hgP
  have HSP := Lib.hid (show SmallG gP from by rw [HGP.out]; cases oP; exact zeroG_small; exact permG_small (by have := HL2.out; omega) (fun x hx => by have := HB2.out x hx; omega))
  clear hoP hoQ hgP
  have hc := implPermutationOf_any l2 P2 d2 _ (by have := HL2.out; omega) (fun x hx => by have := HB2.out x hx; omega) (HA.out.now.2)
  rw [← HOP.out] at hc
  rw [← HGP.out] at hc
  have HC := Lib.hid hc
  clear hc
  go_wp2_with fail
  (with_reducible refine HC.out.mono ?_)
  rintro e v8 ⟨X, rfl, hXg, hr⟩
  clear HC
  obtain ⟨ANC, cNC, ASC, cSC, AOC, cOC, AIC, cIC, hcl, hrk, hb⟩ := rg_parts hr (show X.g = gP from hXg) (HSP.out)
  rw [hcl]
  replace HA := Lib.hid ((HA.out.mono hb).and (stay_gr hrk))
  clear hr hXg hcl hrk hb
  obtain ⟨v9, hv, hb, -, hbx⟩ := laid1 v8 (.cells #[.int .i64 gP.roots, .slice ANC gP.nodes.length cNC, .slice ASC gP.sites.length cSC, .int .i64 gP.edges, .slice AOC gP.outer.length cOC, .slice AIC gP.inner.length cIC] 31)
  have HNv9 := Lib.hid hv
  replace HA := Lib.hid ((HA.out.mono hb).and (stay_box hbx))
  clear hv hb hbx
  have hc := specPermutationOf_any l2 P2 d2 _ (by have := HL2.out; omega) (fun x hx => by have := HB2.out x hx; omega) (HA.out.now.1.1.2)
  rw [← HOQ.out] at hc
  rw [← HGP.out] at hc
  have HC := Lib.hid hc
  clear hc
  go_wp2_with fail
  rw [← HNv9.out]
  (with_reducible refine HC.out.mono ?_)
  rintro e v10 ⟨X, rfl, hXg, hr⟩
  clear HC
  obtain ⟨AND, cND, ASD, cSD, AOD, cOD, AID, cID, hcl, hrk, hb⟩ := rg_parts hr (show X.g = gP from hXg) (HSP.out)
  rw [hcl]
  replace HA := Lib.hid ((HA.out.mono hb).and (stay_gr hrk))
  clear hr hXg hcl hrk hb
  obtain ⟨v11, hv, hb, -, hbx⟩ := laid1 v10 (.cells #[.int .i64 gP.roots, .slice AND gP.nodes.length cND, .slice ASD gP.sites.length cSD, .int .i64 gP.edges, .slice AOD gP.outer.length cOD, .slice AID gP.inner.length cID] 31)
  have HNv11 := Lib.hid hv
  replace HA := Lib.hid ((HA.out.mono hb).and (stay_box hbx))
  clear hv hb hbx
  have HC := Lib.hid (show Calls Tryz.prog 15 #[.slice A bs.length c, .int .i64 2] _ _ from vCut_any A bs c 2 _ (HA.out.now.1.1.1.1.1.1.1.1.1.1.1.2) HRNG.out HCAP.out (by have := HLEN.out; omega) (by omega))
  go_wp2_with fail
  rw [← HNv11.out]
  (with_reducible refine HC.out.mono ?_)
  rintro e v12 ⟨Ay, cy, bsy, rfl, hAy, hrngy, hleny, hb⟩
  clear HC
  replace HA := Lib.hid ((HA.out.mono hb).and (stay_cells hAy))
  have HRNGy := Lib.hid hrngy
  have HLENy := Lib.hid hleny
  clear hb hAy hrngy hleny
  have HC := Lib.hid (drawSwapOf_any Ay bsy cy _ (HA.out.now.2) HRNGy.out (by have := HLENy.out; have := HLEN.out; omega))
  go_wp2_with fail
  (with_reducible refine HC.out.mono ?_)
  rintro e v13 ⟨m, k, rfl, hm, hk, hb⟩
  clear HC
  replace HA := Lib.hid (HA.out.mono hb)
  have HM := Lib.hid hm
  have HK := Lib.hid hk
  clear hm hk hb
  obtain ⟨oS, hoS⟩ : ∃ oS, oS = swapOk m k := ⟨_, rfl⟩
  obtain ⟨gS, hgS⟩ : ∃ gS, gS = (if oS then permG (swapL m.toNat k.toNat) else zeroG) := ⟨_, rfl⟩
  have HOS := Lib.hid hoS
  have HGS := Lib.hid hgS
  have HSS := Lib.hid (show SmallG gS from by rw [HGS.out]; cases h : oS; exact zeroG_small; exact swapG_small (hoS.symm.trans h))
  clear hoS hgS
  have hc := implSwapOf_any m k v13 (by have := HM.out; omega)
  rw [← HOS.out] at hc
  rw [← HGS.out] at hc
  have HC := Lib.hid hc
  clear hc
  go_wp2_with fail
  (with_reducible refine HC.out.mono ?_)
  rintro e v14 ⟨X, rfl, hXg, hr⟩
  clear HC
  obtain ⟨ANE, cNE, ASE, cSE, AOE, cOE, AIE, cIE, hcl, hrk, hb⟩ := rg_parts hr (show X.g = gS from hXg) (HSS.out)
  rw [hcl]
  replace HA := Lib.hid ((HA.out.mono hb).and (stay_gr hrk))
  clear hr hXg hcl hrk hb
  obtain ⟨v15, hv, hb, -, hbx⟩ := laid1 v14 (.cells #[.int .i64 gS.roots, .slice ANE gS.nodes.length cNE, .slice ASE gS.sites.length cSE, .int .i64 gS.edges, .slice AOE gS.outer.length cOE, .slice AIE gS.inner.length cIE] 31)
  have HNv15 := Lib.hid hv
  replace HA := Lib.hid ((HA.out.mono hb).and (stay_box hbx))
  clear hv hb hbx
  have hc := specSwapOf_any m k v15 (by have := HM.out; omega)
  rw [← HOS.out] at hc
  rw [← HGS.out] at hc
  have HC := Lib.hid hc
  clear hc
  go_wp2_with fail
  rw [← HNv15.out]
  (with_reducible refine HC.out.mono ?_)
  rintro e v16 ⟨X, rfl, hXg, hr⟩
  clear HC
  obtain ⟨ANF, cNF, ASF, cSF, AOF, cOF, AIF, cIF, hcl, hrk, hb⟩ := rg_parts hr (show X.g = gS from hXg) (HSS.out)
  rw [hcl]
  replace HA := Lib.hid ((HA.out.mono hb).and (stay_gr hrk))
  clear hr hXg hcl hrk hb
  obtain ⟨v17, hv, hb, -, hbx⟩ := laid1 v16 (.cells #[.int .i64 gS.roots, .slice ANF gS.nodes.length cNF, .slice ASF gS.sites.length cSF, .int .i64 gS.edges, .slice AOF gS.outer.length cOF, .slice AIF gS.inner.length cIF] 31)
  have HNv17 := Lib.hid hv
  replace HA := Lib.hid ((HA.out.mono hb).and (stay_box hbx))
  clear hv hb hbx
  have HC := Lib.hid (show Calls Tryz.prog 15 #[.slice A bs.length c, .int .i64 3] _ _ from vCut_any A bs c 3 _ (HA.out.now.1.1.1.1.1.1.1.1.1.1.1.1.1.1.1.1.2) HRNG.out HCAP.out (by have := HLEN.out; omega) (by omega))
  go_wp2_with fail
  rw [← HNv17.out]
  (with_reducible refine HC.out.mono ?_)
  rintro e v18 ⟨Az, cz, bsz, rfl, hAz, hrngz, hlenz, hb⟩
  clear HC
  replace HA := Lib.hid ((HA.out.mono hb).and (stay_cells hAz))
  have HRNGz := Lib.hid hrngz
  have HLENz := Lib.hid hlenz
  clear hb hAz hrngz hlenz
  have HC := Lib.hid (drawMergeOf_any Az bsz cz _ (HA.out.now.2) HRNGz.out (by have := HLENz.out; have := HLEN.out; omega))
  go_wp2_with fail
  (with_reducible refine HC.out.mono ?_)
  rintro e v19 ⟨h, rfl, hh, hb⟩
  clear HC
  replace HA := Lib.hid (HA.out.mono hb)
  have HH := Lib.hid hh
  clear hh hb
  obtain ⟨oM, hoM⟩ : ∃ oM, oM = inB h 0 4 := ⟨_, rfl⟩
  obtain ⟨gM, hgM⟩ : ∃ gM, gM = (if oM then mergeG h.toNat else zeroG) := ⟨_, rfl⟩
  obtain ⟨gR, hgR⟩ : ∃ gR, gR = (if oM then barG h else zeroG) := ⟨_, rfl⟩
  have HOM := Lib.hid hoM
  have HGM := Lib.hid hgM
  have HGR := Lib.hid hgR
  have HSM := Lib.hid (show SmallG gM from by rw [HGM.out]; cases oM; exact zeroG_small; exact mergeG_small (by have := HH.out; omega))
  have HSR := Lib.hid (show SmallG gR from by rw [HGR.out]; cases oM; exact zeroG_small; exact barG_small (by have := HH.out; omega))
  clear hoM hgM hgR
  have hc := implMergeOf_any h v19
  rw [← HOM.out] at hc
  rw [← HGM.out] at hc
  have HC := Lib.hid hc
  clear hc
  go_wp2_with fail
  (with_reducible refine HC.out.mono ?_)
  rintro e v20 ⟨X, rfl, hXg, hr⟩
  clear HC
  obtain ⟨ANG, cNG, ASG, cSG, AOG, cOG, AIG, cIG, hcl, hrk, hb⟩ := rg_parts hr (show X.g = gM from hXg) (HSM.out)
  rw [hcl]
  replace HA := Lib.hid ((HA.out.mono hb).and (stay_gr hrk))
  clear hr hXg hcl hrk hb
  obtain ⟨v21, hv, hb, -, hbx⟩ := laid1 v20 (.cells #[.int .i64 gM.roots, .slice ANG gM.nodes.length cNG, .slice ASG gM.sites.length cSG, .int .i64 gM.edges, .slice AOG gM.outer.length cOG, .slice AIG gM.inner.length cIG] 31)
  have HNv21 := Lib.hid hv
  replace HA := Lib.hid ((HA.out.mono hb).and (stay_box hbx))
  clear hv hb hbx
  have hc := specMergeOf_any h v21
  rw [← HOM.out] at hc
  rw [← HGM.out] at hc
  have HC := Lib.hid hc
  clear hc
  go_wp2_with fail
  rw [← HNv21.out]
  (with_reducible refine HC.out.mono ?_)
  rintro e v22 ⟨X, rfl, hXg, hr⟩
  clear HC
  obtain ⟨ANH, cNH, ASH, cSH, AOH, cOH, AIH, cIH, hcl, hrk, hb⟩ := rg_parts hr (show X.g = gM from hXg) (HSM.out)
  rw [hcl]
  replace HA := Lib.hid ((HA.out.mono hb).and (stay_gr hrk))
  clear hr hXg hcl hrk hb
  obtain ⟨v23, hv, hb, -, hbx⟩ := laid1 v22 (.cells #[.int .i64 gM.roots, .slice ANH gM.nodes.length cNH, .slice ASH gM.sites.length cSH, .int .i64 gM.edges, .slice AOH gM.outer.length cOH, .slice AIH gM.inner.length cIH] 31)
  have HNv23 := Lib.hid hv
  replace HA := Lib.hid ((HA.out.mono hb).and (stay_box hbx))
  clear hv hb hbx
  have hc := implBarrenOf_any h v23
  rw [← HOM.out] at hc
  rw [← HGR.out] at hc
  have HC := Lib.hid hc
  clear hc
  go_wp2_with fail
  rw [← HNv23.out]
  (with_reducible refine HC.out.mono ?_)
  rintro e v24 ⟨X, rfl, hXg, hr⟩
  clear HC
  obtain ⟨ANI, cNI, ASI, cSI, AOI, cOI, AII, cII, hcl, hrk, hb⟩ := rg_parts hr (show X.g = gR from hXg) (HSR.out)
  rw [hcl]
  replace HA := Lib.hid ((HA.out.mono hb).and (stay_gr hrk))
  clear hr hXg hcl hrk hb
  obtain ⟨v25, hv, hb, -, hbx⟩ := laid1 v24 (.cells #[.int .i64 gR.roots, .slice ANI gR.nodes.length cNI, .slice ASI gR.sites.length cSI, .int .i64 gR.edges, .slice AOI gR.outer.length cOI, .slice AII gR.inner.length cII] 31)
  have HNv25 := Lib.hid hv
  replace HA := Lib.hid ((HA.out.mono hb).and (stay_box hbx))
  clear hv hb hbx
  have hc := specBarrenOf_any h v25
  rw [← HOM.out] at hc
  rw [← HGR.out] at hc
  have HC := Lib.hid hc
  clear hc
  go_wp2_with fail
  rw [← HNv25.out]
  (with_reducible refine HC.out.mono ?_)
  rintro e v26 ⟨X, rfl, hXg, hr⟩
  clear HC
  obtain ⟨ANJ, cNJ, ASJ, cSJ, AOJ, cOJ, AIJ, cIJ, hcl, hrk, hb⟩ := rg_parts hr (show X.g = gR from hXg) (HSR.out)
  rw [hcl]
  replace HA := Lib.hid ((HA.out.mono hb).and (stay_gr hrk))
  clear hr hXg hcl hrk hb
  obtain ⟨v27, hv, hb, -, hbx⟩ := laid1 v26 (.cells #[.int .i64 gR.roots, .slice ANJ gR.nodes.length cNJ, .slice ASJ gR.sites.length cSJ, .int .i64 gR.edges, .slice AOJ gR.outer.length cOJ, .slice AIJ gR.inner.length cIJ] 31)
  have HNv27 := Lib.hid hv
  replace HA := Lib.hid ((HA.out.mono hb).and (stay_box hbx))
  clear hv hb hbx
  have q1 : (oI != oI) = false := by cases oI <;> rfl
  have q2 : (oP != oP) = false := by cases oP <;> rfl
  have q3 : (oS != oS) = false := by cases oS <;> rfl
  have q4 : (oM != oM) = false := by cases oM <;> rfl
  obtain ⟨cA0, cA1, cA2, cA3, cA4, cA5⟩ := row6 (HA.out.now.1.1.1.1.1.1.1.1.1.1.1.1.1.1.1.1.1.1.1.1.1.1.2)
  obtain ⟨cB0, cB1, cB2, cB3, cB4, cB5⟩ := row6 (HA.out.now.1.1.1.1.1.1.1.1.1.1.1.1.1.1.1.1.1.1.1.1.2)
  rw [HNv27.out] at cA0 cA1 cA2 cA3 cA4 cA5 cB0 cB1 cB2 cB3 cB4 cB5
  have HC := Lib.hid (show Calls Tryz.prog 26 #[.agg #[.int .i64 gI.roots, .slice ANA gI.nodes.length cNA, .slice ASA gI.sites.length cSA, .int .i64 gI.edges, .slice AOA gI.outer.length cOA, .slice AIA gI.inner.length cIA], .agg #[.int .i64 gI.roots, .slice ANB gI.nodes.length cNB, .slice ASB gI.sites.length cSB, .int .i64 gI.edges, .slice AOB gI.outer.length cOB, .slice AIB gI.inner.length cIB]] _ _ from vGraph_same gI _ _ _ _ _ _ _ _ _ HSI.out (HA.out.now.1.1.1.1.1.1.1.1.1.1.1.1.1.1.1.1.1.1.1.1.1.1.1.2) (HA.out.now.1.1.1.1.1.1.1.1.1.1.1.1.1.1.1.1.1.1.1.1.1.2))
  go_wp2_with fail
  rw [← HNv27.out]
  (with_reducible refine HC.out.mono ?_)
  rintro e v28 ⟨rfl, hb⟩
  clear HC cA0 cA1 cA2 cA3 cA4 cA5 cB0 cB1 cB2 cB3 cB4 cB5
  replace HA := Lib.hid (HA.out.mono hb)
  clear hb
  obtain ⟨cC0, cC1, cC2, cC3, cC4, cC5⟩ := row6 (HA.out.now.1.1.1.1.1.1.1.1.1.1.1.1.1.1.1.1.2)
  obtain ⟨cD0, cD1, cD2, cD3, cD4, cD5⟩ := row6 (HA.out.now.1.1.1.1.1.1.1.1.1.1.1.1.1.1.2)
  have HC := Lib.hid (show Calls Tryz.prog 26 #[.agg #[.int .i64 gP.roots, .slice ANC gP.nodes.length cNC, .slice ASC gP.sites.length cSC, .int .i64 gP.edges, .slice AOC gP.outer.length cOC, .slice AIC gP.inner.length cIC], .agg #[.int .i64 gP.roots, .slice AND gP.nodes.length cND, .slice ASD gP.sites.length cSD, .int .i64 gP.edges, .slice AOD gP.outer.length cOD, .slice AID gP.inner.length cID]] _ _ from vGraph_same gP _ _ _ _ _ _ _ _ _ HSP.out (HA.out.now.1.1.1.1.1.1.1.1.1.1.1.1.1.1.1.1.1.2) (HA.out.now.1.1.1.1.1.1.1.1.1.1.1.1.1.1.1.2))
  go_wp2_with fail
  (with_reducible refine HC.out.mono ?_)
  rintro e v29 ⟨rfl, hb⟩
  clear HC cC0 cC1 cC2 cC3 cC4 cC5 cD0 cD1 cD2 cD3 cD4 cD5
  replace HA := Lib.hid (HA.out.mono hb)
  clear hb
  obtain ⟨cE0, cE1, cE2, cE3, cE4, cE5⟩ := row6 (HA.out.now.1.1.1.1.1.1.1.1.1.1.1.2)
  obtain ⟨cF0, cF1, cF2, cF3, cF4, cF5⟩ := row6 (HA.out.now.1.1.1.1.1.1.1.1.1.2)
  have HC := Lib.hid (show Calls Tryz.prog 26 #[.agg #[.int .i64 gS.roots, .slice ANE gS.nodes.length cNE, .slice ASE gS.sites.length cSE, .int .i64 gS.edges, .slice AOE gS.outer.length cOE, .slice AIE gS.inner.length cIE], .agg #[.int .i64 gS.roots, .slice ANF gS.nodes.length cNF, .slice ASF gS.sites.length cSF, .int .i64 gS.edges, .slice AOF gS.outer.length cOF, .slice AIF gS.inner.length cIF]] _ _ from vGraph_same gS _ _ _ _ _ _ _ _ _ HSS.out (HA.out.now.1.1.1.1.1.1.1.1.1.1.1.1.2) (HA.out.now.1.1.1.1.1.1.1.1.1.1.2))
  go_wp2_with fail
  (with_reducible refine HC.out.mono ?_)
  rintro e v30 ⟨rfl, hb⟩
  clear HC cE0 cE1 cE2 cE3 cE4 cE5 cF0 cF1 cF2 cF3 cF4 cF5
  replace HA := Lib.hid (HA.out.mono hb)
  clear hb
  obtain ⟨cG0, cG1, cG2, cG3, cG4, cG5⟩ := row6 (HA.out.now.1.1.1.1.1.1.2)
  obtain ⟨cH0, cH1, cH2, cH3, cH4, cH5⟩ := row6 (HA.out.now.1.1.1.1.2)
  have HC := Lib.hid (show Calls Tryz.prog 26 #[.agg #[.int .i64 gM.roots, .slice ANG gM.nodes.length cNG, .slice ASG gM.sites.length cSG, .int .i64 gM.edges, .slice AOG gM.outer.length cOG, .slice AIG gM.inner.length cIG], .agg #[.int .i64 gM.roots, .slice ANH gM.nodes.length cNH, .slice ASH gM.sites.length cSH, .int .i64 gM.edges, .slice AOH gM.outer.length cOH, .slice AIH gM.inner.length cIH]] _ _ from vGraph_same gM _ _ _ _ _ _ _ _ _ HSM.out (HA.out.now.1.1.1.1.1.1.1.2) (HA.out.now.1.1.1.1.1.2))
  go_wp2_with fail
  (with_reducible refine HC.out.mono ?_)
  rintro e v31 ⟨rfl, hb⟩
  clear HC cG0 cG1 cG2 cG3 cG4 cG5 cH0 cH1 cH2 cH3 cH4 cH5
  replace HA := Lib.hid (HA.out.mono hb)
  clear hb
  obtain ⟨cI0, cI1, cI2, cI3, cI4, cI5⟩ := row6 (HA.out.now.1.1.2)
  obtain ⟨cJ0, cJ1, cJ2, cJ3, cJ4, cJ5⟩ := row6 (HA.out.now.2)
  have HC := Lib.hid (show Calls Tryz.prog 26 #[.agg #[.int .i64 gR.roots, .slice ANI gR.nodes.length cNI, .slice ASI gR.sites.length cSI, .int .i64 gR.edges, .slice AOI gR.outer.length cOI, .slice AII gR.inner.length cII], .agg #[.int .i64 gR.roots, .slice ANJ gR.nodes.length cNJ, .slice ASJ gR.sites.length cSJ, .int .i64 gR.edges, .slice AOJ gR.outer.length cOJ, .slice AIJ gR.inner.length cIJ]] _ _ from vGraph_same gR _ _ _ _ _ _ _ _ _ HSR.out (HA.out.now.1.1.1.2) (HA.out.now.1.2))
  go_wp2_with fail
  (with_reducible refine HC.out.mono ?_)
  rintro e v32 ⟨rfl, hb⟩
  clear HC cI0 cI1 cI2 cI3 cI4 cI5 cJ0 cJ1 cJ2 cJ3 cJ4 cJ5
  replace HA := Lib.hid (HA.out.mono hb)
  clear hb
  obtain ⟨v33, hv, hb, -, hbx⟩ := laid1 v32 (.cells #[.string ⟨#[107]⟩, .int .i64 0, .int .i64 0] 44)
  have HNv33 := Lib.hid hv
  replace HA := Lib.hid ((HA.out.mono hb).and (stay_sig (sigK_reads hbx)))
  clear hv hb hbx
  have HZK := Lib.hid sigK_small
  clear q1 q2 q3 q4
  cases hI : oI
  all_goals cases hP : oP
  all_goals cases hM : oM
  all_goals first
    | (have hq := (show oI = false from hI); clear hq)
    | (obtain ⟨cA0, cA1, cA2, cA3, cA4, cA5⟩ := row6 (HA.out.now.1.1.1.1.1.1.1.1.1.1.1.1.1.1.1.1.1.1.1.1.1.1.1.2)
       have hc := implIsIdentity_any sigK gI _ _ _ _ _ _ HSI.out HZK.out (sigK_cap _) (HA.out.now.2) (HA.out.now.1.1.1.1.1.1.1.1.1.1.1.1.1.1.1.1.1.1.1.1.1.1.1.1.2)
       rw [elI HOI.out hI HGI.out] at hc
       have HC := Lib.hid hc
       clear hc
       go_wp2_with (rw [← HNv33.out])
       (with_reducible refine HC.out.mono ?_)
       rintro e vb ⟨rfl, hb⟩
       clear HC cA0 cA1 cA2 cA3 cA4 cA5
       replace HA := Lib.hid (HA.out.mono hb)
       clear hb)
  all_goals first
    | (have hq := (show oP = false from hP); clear hq)
    | (obtain ⟨cC0, cC1, cC2, cC3, cC4, cC5⟩ := row6 (HA.out.now.1.1.1.1.1.1.1.1.1.1.1.1.1.1.1.1.1.2)
       have hc := implIsPermutation_any sigK gP _ _ _ _ _ _ HSP.out HZK.out (sigK_cap _) (HA.out.now.2) (HA.out.now.1.1.1.1.1.1.1.1.1.1.1.1.1.1.1.1.1.1.2)
       rw [elP HOP.out hP HGP.out] at hc
       have HC := Lib.hid hc
       clear hc
       go_wp2_with (rw [← HNv33.out])
       (with_reducible refine HC.out.mono ?_)
       rintro e vb ⟨rfl, hb⟩
       clear HC cC0 cC1 cC2 cC3 cC4 cC5
       replace HA := Lib.hid (HA.out.mono hb)
       clear hb)
  all_goals first
    | (have hq := (show oM = false from hM); clear hq)
    | (obtain ⟨cG0, cG1, cG2, cG3, cG4, cG5⟩ := row6 (HA.out.now.1.1.1.1.1.1.1.2)
       have hc := implIsPlacing_any sigK gM _ _ _ _ _ _ HSM.out HZK.out (sigK_cap _) (HA.out.now.2) (HA.out.now.1.1.1.1.1.1.1.1.2)
       rw [(elM HOM.out hM HGM.out).1] at hc
       have HC := Lib.hid hc
       clear hc
       go_wp2_with (rw [← HNv33.out])
       (with_reducible refine HC.out.mono ?_)
       rintro e vb ⟨rfl, hb⟩
       clear HC cG0 cG1 cG2 cG3 cG4 cG5
       replace HA := Lib.hid (HA.out.mono hb)
       clear hb)
  all_goals first
    | (have hq := (show oM = false from hM); clear hq)
    | (obtain ⟨cG0, cG1, cG2, cG3, cG4, cG5⟩ := row6 (HA.out.now.1.1.1.1.1.1.1.2)
       have hc := implIsPrime_any sigK gM _ _ _ _ _ _ HSM.out HZK.out (sigK_cap _) (HA.out.now.2) (HA.out.now.1.1.1.1.1.1.1.1.2)
       rw [(elM HOM.out hM HGM.out).2] at hc
       have HC := Lib.hid hc
       clear hc
       go_wp2_with (rw [← HNv33.out])
       (with_reducible refine HC.out.mono ?_)
       rintro e vb ⟨rfl, hb⟩
       clear HC cG0 cG1 cG2 cG3 cG4 cG5
       replace HA := Lib.hid (HA.out.mono hb)
       clear hb)
  all_goals first
    | (have hq := (show oM = false from hM); clear hq)
    | (obtain ⟨cI0, cI1, cI2, cI3, cI4, cI5⟩ := row6 (HA.out.now.1.1.1.2)
       have hc := implIsPlacing_any sigK gR _ _ _ _ _ _ HSR.out HZK.out (sigK_cap _) (HA.out.now.2) (HA.out.now.1.1.1.1.2)
       rw [elR HOM.out hM HGR.out] at hc
       have HC := Lib.hid hc
       clear hc
       go_wp2_with (rw [← HNv33.out])
       (with_reducible refine HC.out.mono ?_)
       rintro e vb ⟨rfl, hb⟩
       clear HC cI0 cI1 cI2 cI3 cI4 cI5
       replace HA := Lib.hid (HA.out.mono hb)
       clear hb)
  all_goals cases hS : oS
  all_goals first
    | (have hq := (show oS = false from hS)
       clear hq
       go_wp2_with (rw [← HNv33.out])
       go_ret
       exact ⟨rfl, (HA.out.now.1.1.1.1.1.1.1.1.1.1.1.1.1.1.1.1.1.1.1.1.1.1.1.1.1.1.1)⟩)
    | (obtain ⟨hsw, hk4⟩ := elK HOS.out hS
       obtain ⟨gK, hgK⟩ : ∃ gK, gK = permG (swapL k.toNat m.toNat) := ⟨_, rfl⟩
       have HGK := Lib.hid hgK
       have HSK := Lib.hid (show SmallG gK from by rw [hgK]; exact swapG_small hsw)
       have HSW := Lib.hid hsw
       have HK4 := Lib.hid hk4
       clear hgK hsw hk4
       have hc := (fun W (_ : Below w.heap.size w W) => implSwapOf_any k m W (by have := HK4.out; omega)) _ (HA.out.now.1.1.1.1.1.1.1.1.1.1.1.1.1.1.1.1.1.1.1.1.1.1.1.1.1.1.1)
       rw [HSW.out, if_pos rfl, ← HGK.out] at hc
       have HC := Lib.hid hc
       clear hc
       go_wp2_with (rw [← HNv33.out])
       (with_reducible refine HC.out.mono ?_)
       rintro e v60 ⟨X, rfl, hXg, hr⟩
       clear HC
       obtain ⟨ANK, cNK, ASK, cSK, AOK, cOK, AIK, cIK, hcl, hrk, hb⟩ := rg_parts hr (show X.g = gK from hXg) HSK.out
       rw [hcl]
       replace HA := Lib.hid (((HA.out.mono hb).and (stay_gr hrk)))
       clear hr hXg hcl hrk hb
       obtain ⟨v61, hv, hb, -, hbx⟩ := laid1 v60 (.cells #[.int .i64 gK.roots, .slice ANK gK.nodes.length cNK, .slice ASK gK.sites.length cSK, .int .i64 gK.edges, .slice AOK gK.outer.length cOK, .slice AIK gK.inner.length cIK] 31)
       have HNv61 := Lib.hid hv
       replace HA := Lib.hid ((HA.out.mono hb).and (stay_box hbx))
       clear hv hb hbx
       obtain ⟨hcm, hci⟩ := elC HOS.out hS HGS.out HGK.out
       have HCM := Lib.hid hcm
       have HCI := Lib.hid hci
       clear hcm hci
       obtain ⟨cK0, cK1, cK2, cK3, cK4, cK5⟩ := row6 (HA.out.now.2)
       obtain ⟨cE0, cE1, cE2, cE3, cE4, cE5⟩ := row6 (HA.out.now.1.1.1.1.1.1.1.1.1.1.1.1.1.1.2)
       rw [HNv61.out] at cK0 cK1 cK2 cK3 cK4 cK5 cE0 cE1 cE2 cE3 cE4 cE5
       have hc := implComposeBigraphs_any sigK gK gS _ _ _ _ _ _ _ _ _ _ HSK.out HSS.out HZK.out (sigK_cap _) (HA.out.now.1.1.2) (HA.out.now.1.2) (HA.out.now.1.1.1.1.1.1.1.1.1.1.1.1.1.1.1.2)
       rw [HCM.out] at hc
       rw [if_pos rfl] at hc
       have HC := Lib.hid hc
       clear hc
       go_wp2_with fail
       rw [← HNv61.out]
       (with_reducible refine HC.out.mono ?_)
       rintro e v62 ⟨X, rfl, hXg, hr⟩
       clear HC cK0 cK1 cK2 cK3 cK4 cK5 cE0 cE1 cE2 cE3 cE4 cE5
       obtain ⟨ANZ, cNZ, ASZ, cSZ, AOZ, cOZ, AIZ, cIZ, hcl, hrk, hb⟩ := rg_parts hr (show X.g = (compG gK gS) from hXg) (good_small (comp_good_of HCM.out))
       rw [hcl]
       replace HA := Lib.hid ((HA.out.mono hb).and (stay_gr hrk))
       clear hr hXg hcl hrk hb
       obtain ⟨v63, hv, hb, -, hbx⟩ := laid1 v62 (.cells #[.int .i64 (compG gK gS).roots, .slice ANZ (compG gK gS).nodes.length cNZ, .slice ASZ (compG gK gS).sites.length cSZ, .int .i64 (compG gK gS).edges, .slice AOZ (compG gK gS).outer.length cOZ, .slice AIZ (compG gK gS).inner.length cIZ] 31)
       have HNv63 := Lib.hid hv
       replace HA := Lib.hid ((HA.out.mono hb).and (stay_box hbx))
       clear hv hb hbx
       obtain ⟨cZ0, cZ1, cZ2, cZ3, cZ4, cZ5⟩ := row6 (HA.out.now.2)
       rw [HNv63.out] at cZ0 cZ1 cZ2 cZ3 cZ4 cZ5
       have hc := implIsIdentity_any sigK (compG gK gS) _ _ _ _ _ _ (good_small (comp_good_of HCM.out)) HZK.out (sigK_cap _) (HA.out.now.1.1.1.1.2) (HA.out.now.1.2)
       rw [HCI.out] at hc
       have HC := Lib.hid hc
       clear hc
       go_wp2_with fail
       rw [← HNv63.out]
       (with_reducible refine HC.out.mono ?_)
       rintro e v64 ⟨rfl, hb⟩
       clear HC cZ0 cZ1 cZ2 cZ3 cZ4 cZ5
       replace HA := Lib.hid (HA.out.mono hb)
       clear hb
       obtain ⟨cE0, cE1, cE2, cE3, cE4, cE5⟩ := row6 (HA.out.now.1.1.1.1.1.1.1.1.1.1.1.1.1.1.1.1.2)
       have hc := implIsPermutation_any sigK gS _ _ _ _ _ _ HSS.out HZK.out (sigK_cap _) (HA.out.now.1.1.1.1.2) (HA.out.now.1.1.1.1.1.1.1.1.1.1.1.1.1.1.1.1.1.2)
       rw [elS HOS.out hS HGS.out] at hc
       have HC := Lib.hid hc
       clear hc
       go_wp2_with fail
       (with_reducible refine HC.out.mono ?_)
       rintro e v65 ⟨rfl, hb⟩
       clear HC cE0 cE1 cE2 cE3 cE4 cE5
       replace HA := Lib.hid (HA.out.mono hb)
       clear hb
       go_wp2_with fail
       go_ret
       exact ⟨rfl, (HA.out.now.1.1.1.1.1.1.1.1.1.1.1.1.1.1.1.1.1.1.1.1.1.1.1.1.1.1.1.1.1.1.1)⟩)

end Go.Proofs.YtijkdpdmclkmlaaGreatDoor
