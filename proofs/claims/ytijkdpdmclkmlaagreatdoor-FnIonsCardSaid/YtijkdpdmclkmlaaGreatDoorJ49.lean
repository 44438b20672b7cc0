/- The law of ions walked: it answers true for each code. -/
import Derived.Test.YtijkdpdmclkmlaaGreatDoorProg
import Derived.Test.YtijkdpdmclkmlaaGreatDoorJ22
import Derived.Test.YtijkdpdmclkmlaaGreatDoorJ46
import Derived.Test.YtijkdpdmclkmlaaGreatDoorJ47
import Derived.Test.YtijkdpdmclkmlaaGreatDoorJ48
import Derived.Test.YtijkdpdmclkmlaaGreatDoorJ21
import Derived.Test.YtijkdpdmclkmlaaGreatDoorJ39
import Derived.Test.YtijkdpdmclkmlaaGreatDoorJ27
import Derived.BigQuiet
set_option linter.unusedSimpArgs false
set_option linter.unusedVariables false
set_option maxRecDepth 100000
set_option maxHeartbeats 16000000
namespace Go.Proofs.YtijkdpdmclkmlaaGreatDoor
open Go.RowKit
theorem atomG_small {c : Int} {n o : List ByteArray} (hn : n.length ≤ 1000) (ho : o.length ≤ 1000) (hoz : ∀ s ∈ o, s.size ≤ 1000) : SmallG (atomG c n o) :=
  { ionG_small hn ho hoz with sites := Nat.zero_le _, sits := fun p hp => (nomatch hp) }
theorem newG_small {l : List ByteArray} (hl : l.length ≤ 1000) (hz : ∀ s ∈ l, s.size ≤ 1000) : SmallG (newG l) :=
  { nodes := Nat.zero_le _, links := fun x hx => (nomatch hx), sites := Nat.zero_le _, outer := hl, onames := hz, inner := Nat.zero_le _, inames := fun x hx => (nomatch hx), edges := by show (-1000 : Int) ≤ 0 ∧ (0 : Int) ≤ 1000; omega, roots := by show (-1000 : Int) ≤ 0 ∧ (0 : Int) ≤ 1000; omega, pars := fun x hx => (nomatch hx), sits := fun p hp => (nomatch hp) }
theorem cloG_small {l : List ByteArray} (hl : l.length ≤ 1000) (hz : ∀ s ∈ l, s.size ≤ 1000) : SmallG (cloG l) :=
  { nodes := Nat.zero_le _, links := fun x hx => (nomatch hx), sites := Nat.zero_le _, outer := Nat.zero_le _, onames := fun x hx => (nomatch hx), inner := by show ((List.range l.length).map _).length ≤ 1000; rw [List.length_map, List.length_range]; exact hl
    inames := fun x hx => by
      obtain ⟨i, hi, rfl⟩ := List.mem_map.1 (show x ∈ (List.range l.length).map _ from hx)
      have hi := List.mem_range.1 hi
      exact hz _ (by simp [List.getD, hi])
    edges := by show (-1000 : Int) ≤ (l.length : Int) ∧ (l.length : Int) ≤ 1000; omega, roots := by show (-1000 : Int) ≤ 0 ∧ (0 : Int) ≤ 1000; omega, pars := fun x hx => (nomatch hx), sits := fun p hp => (nomatch hp) }

theorem lawFnIons (A : Option Addr) (bs : List Int) (c : Nat) (w : World) (hA : Cells w A (u8s bs)) (hrng : ∀ x ∈ bs, 0 ≤ x ∧ x < 256) (hlen : bs.length ≤ maxLen) (hcap : bs.length ≤ c) :
    Calls Tryz.prog 4 #[.slice A bs.length c] w fun e w' => e = .returned (.bool true) ∧ Below w.heap.size w w' := by
  have HB := Lib.hid (vBig_any A bs.length c w hlen)
  by_cases hbig : 65536 < bs.length
  · rw [show decide (65536 < bs.length) = true from by simp [hbig]] at HB
    clear hbig hlen hA hrng
    go_enter Tryz.func4, Tryz.ntmps4
    go_wp2_with fail
    (with_reducible refine HB.out.mono ?_)
    rintro e w1 ⟨rfl, rfl⟩
    go_wp2_with fail
    go_ret
    exact ⟨rfl, Below.refl _ _⟩
  rw [show decide (65536 < bs.length) = false from by simp [hbig]] at HB
  have HLEN := Lib.hid (show bs.length ≤ 65536 from by omega)
  have HRNG := Lib.hid hrng
  have HCAP := Lib.hid hcap
  clear hcap
  have HA := Lib.hid ((stay_bel (Below.refl w.heap.size w)).and (stay_cells hA))
  clear hbig hlen hA hrng
  go_enter Tryz.func4, Tryz.ntmps4
  go_wp2_with fail
  (with_reducible refine HB.out.mono ?_)
  rintro e w' ⟨rfl, rfl⟩
  clear HB
  have HC := Lib.hid (drawIonOf_any A bs c _ (HA.out.now.2) HRNG.out (by have := HLEN.out; omega))
  go_wp2_with fail
  (with_reducible refine HC.out.mono ?_)
  rintro e v1 ⟨gv, sig, ct, P1, d1, l1, rfl, hsz, hll, hcap, hsg, hcl, hb⟩
  clear HC
  replace HA := Lib.hid (((HA.out.mono hb).and (stay_sig hsg)).and (stay_cells hcl))
  have HZS := Lib.hid hsz
  have HCG := Lib.hid hcap
  have HL1 := Lib.hid hll
  obtain ⟨AG, cG, rfl, _⟩ := hsg.form
  clear hsz hcap hll hsg hcl hb
  have hso := sort_small (l := l1) (n := 41) (z := 100) HL1.out.1 HL1.out.2
  have HSO := Lib.hid hso
  clear hso
  obtain ⟨oI, hoI⟩ : ∃ oI, oI = okI sig ct l1 := ⟨_, rfl⟩
  obtain ⟨gI, hgI⟩ : ∃ gI, gI = (if oI then ionG ct l1 (sortS l1) else zeroG) := ⟨_, rfl⟩
  obtain ⟨oA, hoA⟩ : ∃ oA, oA = ionB sig ct l1 := ⟨_, rfl⟩
  obtain ⟨gA, hgA⟩ : ∃ gA, gA = (if oA then atomG ct l1 (sortS l1) else zeroG) := ⟨_, rfl⟩
  have HOI := Lib.hid hoI
  have HGI := Lib.hid hgI
  have HOA := Lib.hid hoA
  have HGA := Lib.hid hgA
  have HSI := Lib.hid (show SmallG gI from by rw [HGI.out]; cases oI; exact zeroG_small; exact ionG_small (by have := HL1.out.1; omega) (by have := HSO.out.1; omega) (fun s hs => by have := HSO.out.2 s hs; omega))
  have HSA := Lib.hid (show SmallG gA from by rw [HGA.out]; cases oA; exact zeroG_small; exact atomG_small (by have := HL1.out.1; omega) (by have := HSO.out.1; omega) (fun s hs => by have := HSO.out.2 s hs; omega))
  clear hoI hgI hoA hgA
  have hc := implIonOf_any sig ct P1 d1 l1 _ _ HZS.out HCG.out (by have := HL1.out.1; omega) (fun s hs => by have := HL1.out.2 s hs; omega) (HA.out.now.1.2) (HA.out.now.2)
  rw [← HOI.out] at hc
  rw [← HGI.out] at hc
  have HC := Lib.hid hc
  clear hc
  go_wp2_with fail
  (with_reducible refine HC.out.mono ?_)
  rintro e v2 ⟨X, rfl, hXg, hr⟩
  clear HC
  obtain ⟨ANA, cNA, ASA, cSA, AOA, cOA, AIA, cIA, hcl, hrk, hb⟩ := rg_parts hr (show X.g = gI from hXg) (HSI.out)
  rw [hcl]
  replace HA := Lib.hid ((HA.out.mono hb).and (stay_gr hrk))
  clear hr hXg hcl hrk hb
  obtain ⟨v3, hv, hb, -, hbx⟩ := laid1 v2 (.cells #[.int .i64 gI.roots, .slice ANA gI.nodes.length cNA, .slice ASA gI.sites.length cSA, .int .i64 gI.edges, .slice AOA gI.outer.length cOA, .slice AIA gI.inner.length cIA] 31)
  have HNv3 := Lib.hid hv
  replace HA := Lib.hid ((HA.out.mono hb).and (stay_box hbx))
  clear hv hb hbx
  have hc := specIonOf_any sig ct P1 d1 l1 _ _ HZS.out (by have := HL1.out.1; omega) (fun s hs => by have := HL1.out.2 s hs; omega) (HA.out.now.1.1.1.2) (HA.out.now.1.1.2)
  rw [← HOI.out] at hc
  rw [← HGI.out] at hc
  have HC := Lib.hid hc
  clear hc
  go_wp2_with fail
  rw [← HNv3.out]
  (with_reducible refine HC.out.mono ?_)
  rintro e v4 ⟨X, rfl, hXg, hr⟩
  clear HC
  obtain ⟨ANB, cNB, ASB, cSB, AOB, cOB, AIB, cIB, hcl, hrk, hb⟩ := rg_parts hr (show X.g = gI from hXg) (HSI.out)
  rw [hcl]
  replace HA := Lib.hid ((HA.out.mono hb).and (stay_gr hrk))
  clear hr hXg hcl hrk hb
  obtain ⟨v5, hv, hb, -, hbx⟩ := laid1 v4 (.cells #[.int .i64 gI.roots, .slice ANB gI.nodes.length cNB, .slice ASB gI.sites.length cSB, .int .i64 gI.edges, .slice AOB gI.outer.length cOB, .slice AIB gI.inner.length cIB] 31)
  have HNv5 := Lib.hid hv
  replace HA := Lib.hid ((HA.out.mono hb).and (stay_box hbx))
  clear hv hb hbx
  have hc := implAtomOf_any sig ct P1 d1 l1 _ _ HZS.out HCG.out (by have := HL1.out.1; omega) (fun s hs => by have := HL1.out.2 s hs; omega) (HA.out.now.1.1.1.1.1.2) (HA.out.now.1.1.1.1.2)
  rw [← HOA.out] at hc
  rw [← HGA.out] at hc
  have HC := Lib.hid hc
  clear hc
  go_wp2_with fail
  rw [← HNv5.out]
  (with_reducible refine HC.out.mono ?_)
  rintro e v6 ⟨X, rfl, hXg, hr⟩
  clear HC
  obtain ⟨ANC, cNC, ASC, cSC, AOC, cOC, AIC, cIC, hcl, hrk, hb⟩ := rg_parts hr (show X.g = gA from hXg) (HSA.out)
  rw [hcl]
  replace HA := Lib.hid ((HA.out.mono hb).and (stay_gr hrk))
  clear hr hXg hcl hrk hb
  obtain ⟨v7, hv, hb, -, hbx⟩ := laid1 v6 (.cells #[.int .i64 gA.roots, .slice ANC gA.nodes.length cNC, .slice ASC gA.sites.length cSC, .int .i64 gA.edges, .slice AOC gA.outer.length cOC, .slice AIC gA.inner.length cIC] 31)
  have HNv7 := Lib.hid hv
  replace HA := Lib.hid ((HA.out.mono hb).and (stay_box hbx))
  clear hv hb hbx
  have hc := specAtomOf_any sig ct P1 d1 l1 _ _ HZS.out HCG.out (by have := HL1.out.1; omega) (fun s hs => by have := HL1.out.2 s hs; omega) (HA.out.now.1.1.1.1.1.1.1.2) (HA.out.now.1.1.1.1.1.1.2)
  rw [← HOA.out] at hc
  rw [← HGA.out] at hc
  have HC := Lib.hid hc
  clear hc
  go_wp2_with fail
  rw [← HNv7.out]
  (with_reducible refine HC.out.mono ?_)
  rintro e v8 ⟨X, rfl, hXg, hr⟩
  clear HC
  obtain ⟨AND, cND, ASD, cSD, AOD, cOD, AID, cID, hcl, hrk, hb⟩ := rg_parts hr (show X.g = gA from hXg) (HSA.out)
  rw [hcl]
  replace HA := Lib.hid ((HA.out.mono hb).and (stay_gr hrk))
  clear hr hXg hcl hrk hb
  obtain ⟨v9, hv, hb, -, hbx⟩ := laid1 v8 (.cells #[.int .i64 gA.roots, .slice AND gA.nodes.length cND, .slice ASD gA.sites.length cSD, .int .i64 gA.edges, .slice AOD gA.outer.length cOD, .slice AID gA.inner.length cID] 31)
  have HNv9 := Lib.hid hv
  replace HA := Lib.hid ((HA.out.mono hb).and (stay_box hbx))
  clear hv hb hbx
  have HC := Lib.hid (show Calls Tryz.prog 15 #[.slice A bs.length c, .int .i64 1] _ _ from vCut_any A bs c 1 _ (HA.out.now.1.1.1.1.1.1.1.1.1.1.2) HRNG.out HCAP.out (by have := HLEN.out; omega) (by omega))
  go_wp2_with fail
  rw [← HNv9.out]
  (with_reducible refine HC.out.mono ?_)
  rintro e v10 ⟨Ax, cx, bsx, rfl, hAx, hrngx, hlenx, hb⟩
  clear HC
  replace HA := Lib.hid ((HA.out.mono hb).and (stay_cells hAx))
  have HRNGx := Lib.hid hrngx
  have HLENx := Lib.hid hlenx
  clear hb hAx hrngx hlenx
  have HC := Lib.hid (drawSubstitutionOf_any Ax bsx cx _ (HA.out.now.2) HRNGx.out (by have := HLENx.out; have := HLEN.out; omega))
  go_wp2_with fail
  (with_reducible refine HC.out.mono ?_)
  rintro e v11 ⟨P2, d2, l2, P3, d3, l3, rfl, hl2, hl3, hcl, hcm, hb⟩
  clear HC
  replace HA := Lib.hid (((HA.out.mono hb).and (stay_cells hcl)).and (stay_cells hcm))
  have HL2 := Lib.hid hl2
  have HL3 := Lib.hid hl3
  clear hl2 hl3 hcl hcm hb
  have HSP := Lib.hid (sort_small (l := l3) (n := 41) (z := 100) HL3.out.1 HL3.out.2)
  obtain ⟨oS, hoS⟩ : ∃ oS, oS = subOk l2 l3 := ⟨_, rfl⟩
  obtain ⟨gS, hgS⟩ : ∃ gS, gS = (if oS then subG l2 l3 (sortS l3) else zeroG) := ⟨_, rfl⟩
  have HOS := Lib.hid hoS
  have HGS := Lib.hid hgS
  have HSS := Lib.hid (show SmallG gS from by rw [HGS.out]; cases oS; exact zeroG_small; exact subG_small (by have := HL2.out.1; omega) (fun s hs => by have := HL2.out.2 s hs; omega) (by have := HSP.out.1; omega) (fun s hs => by have := HSP.out.2 s hs; omega))
  clear hoS hgS
  have hc := implSubstitutionOf_any P2 P3 d2 d3 l2 l3 _ (by have := HL2.out.1; omega) (fun s hs => by have := HL2.out.2 s hs; omega) (by have := HL3.out.1; omega) (fun s hs => by have := HL3.out.2 s hs; omega) (HA.out.now.1.2) (HA.out.now.2)
  rw [← HOS.out] at hc
  rw [← HGS.out] at hc
  have HC := Lib.hid hc
  clear hc
  go_wp2_with fail
  (with_reducible refine HC.out.mono ?_)
  rintro e v12 ⟨X, rfl, hXg, hr⟩
  clear HC
  obtain ⟨ANE, cNE, ASE, cSE, AOE, cOE, AIE, cIE, hcl, hrk, hb⟩ := rg_parts hr (show X.g = gS from hXg) (HSS.out)
  rw [hcl]
  replace HA := Lib.hid ((HA.out.mono hb).and (stay_gr hrk))
  clear hr hXg hcl hrk hb
  obtain ⟨v13, hv, hb, -, hbx⟩ := laid1 v12 (.cells #[.int .i64 gS.roots, .slice ANE gS.nodes.length cNE, .slice ASE gS.sites.length cSE, .int .i64 gS.edges, .slice AOE gS.outer.length cOE, .slice AIE gS.inner.length cIE] 31)
  have HNv13 := Lib.hid hv
  replace HA := Lib.hid ((HA.out.mono hb).and (stay_box hbx))
  clear hv hb hbx
  have hc := specSubstitutionOf_any P2 P3 d2 d3 l2 l3 _ (by have := HL2.out.1; omega) (fun s hs => by have := HL2.out.2 s hs; omega) (by have := HL3.out.1; omega) (fun s hs => by have := HL3.out.2 s hs; omega) (HA.out.now.1.1.1.2) (HA.out.now.1.1.2)
  rw [← HOS.out] at hc
  rw [← HGS.out] at hc
  have HC := Lib.hid hc
  clear hc
  go_wp2_with fail
  rw [← HNv13.out]
  (with_reducible refine HC.out.mono ?_)
  rintro e v14 ⟨X, rfl, hXg, hr⟩
  clear HC
  obtain ⟨ANF, cNF, ASF, cSF, AOF, cOF, AIF, cIF, hcl, hrk, hb⟩ := rg_parts hr (show X.g = gS from hXg) (HSS.out)
  rw [hcl]
  replace HA := Lib.hid ((HA.out.mono hb).and (stay_gr hrk))
  clear hr hXg hcl hrk hb
  obtain ⟨v15, hv, hb, -, hbx⟩ := laid1 v14 (.cells #[.int .i64 gS.roots, .slice ANF gS.nodes.length cNF, .slice ASF gS.sites.length cSF, .int .i64 gS.edges, .slice AOF gS.outer.length cOF, .slice AIF gS.inner.length cIF] 31)
  have HNv15 := Lib.hid hv
  replace HA := Lib.hid ((HA.out.mono hb).and (stay_box hbx))
  clear hv hb hbx
  have HC := Lib.hid (show Calls Tryz.prog 15 #[.slice A bs.length c, .int .i64 2] _ _ from vCut_any A bs c 2 _ (HA.out.now.1.1.1.1.1.1.1.1.1.1.1.1.1.1.1.1.1.2) HRNG.out HCAP.out (by have := HLEN.out; omega) (by omega))
  go_wp2_with fail
  rw [← HNv15.out]
  (with_reducible refine HC.out.mono ?_)
  rintro e v16 ⟨Ay, cy, bsy, rfl, hAy, hrngy, hleny, hb⟩
  clear HC
  replace HA := Lib.hid ((HA.out.mono hb).and (stay_cells hAy))
  have HRNGy := Lib.hid hrngy
  have HLENy := Lib.hid hleny
  clear hb hAy hrngy hleny
  have HC := Lib.hid (drawNewNames_any Ay bsy cy _ (HA.out.now.2) HRNGy.out (by have := HLENy.out; have := HLEN.out; omega))
  go_wp2_with fail
  (with_reducible refine HC.out.mono ?_)
  rintro e v17 ⟨P4, d4, l4, rfl, hl4, hz4, hcl, hb⟩
  clear HC
  replace HA := Lib.hid ((HA.out.mono hb).and (stay_cells hcl))
  have HL4 := Lib.hid hl4
  have HZ4 := Lib.hid (show ∀ s ∈ l4, s.size ≤ 1000 from fun s hs => by have := hz4 s hs; omega)
  clear hl4 hz4 hcl hb
  obtain ⟨oN, hoN⟩ : ∃ oN, oN = namesB l4 := ⟨_, rfl⟩
  obtain ⟨gN, hgN⟩ : ∃ gN, gN = (if oN then newG l4 else zeroG) := ⟨_, rfl⟩
  obtain ⟨oC, hoC⟩ : ∃ oC, oC = (namesB l4 && decide (l4.length ≤ 8)) := ⟨_, rfl⟩
  obtain ⟨gC, hgC⟩ : ∃ gC, gC = (if oC then cloG l4 else zeroG) := ⟨_, rfl⟩
  have HON := Lib.hid hoN
  have HGN := Lib.hid hgN
  have HOC := Lib.hid hoC
  have HGC := Lib.hid hgC
  have HSN := Lib.hid (show SmallG gN from by rw [HGN.out]; cases oN; exact zeroG_small; exact newG_small (by have := HL4.out; omega) HZ4.out)
  have HSC := Lib.hid (show SmallG gC from by rw [HGC.out]; cases oC; exact zeroG_small; exact cloG_small (by have := HL4.out; omega) HZ4.out)
  clear hoN hgN hoC hgC
  have hc := implNewNames_any P4 d4 l4 _ (by have := HL4.out; omega) HZ4.out (HA.out.now.2)
  rw [← HON.out] at hc
  rw [← HGN.out] at hc
  have HC := Lib.hid hc
  clear hc
  go_wp2_with fail
  (with_reducible refine HC.out.mono ?_)
  rintro e v18 ⟨X, rfl, hXg, hr⟩
  clear HC
  obtain ⟨ANG, cNG, ASG, cSG, AOG, cOG, AIG, cIG, hcl, hrk, hb⟩ := rg_parts hr (show X.g = gN from hXg) (HSN.out)
  rw [hcl]
  replace HA := Lib.hid ((HA.out.mono hb).and (stay_gr hrk))
  clear hr hXg hcl hrk hb
  obtain ⟨v19, hv, hb, -, hbx⟩ := laid1 v18 (.cells #[.int .i64 gN.roots, .slice ANG gN.nodes.length cNG, .slice ASG gN.sites.length cSG, .int .i64 gN.edges, .slice AOG gN.outer.length cOG, .slice AIG gN.inner.length cIG] 31)
  have HNv19 := Lib.hid hv
  replace HA := Lib.hid ((HA.out.mono hb).and (stay_box hbx))
  clear hv hb hbx
  have hc := specNewNames_any P4 d4 l4 _ (by have := HL4.out; omega) HZ4.out (HA.out.now.1.1.2)
  rw [← HON.out] at hc
  rw [← HGN.out] at hc
  have HC := Lib.hid hc
  clear hc
  go_wp2_with fail
  rw [← HNv19.out]
  (with_reducible refine HC.out.mono ?_)
  rintro e v20 ⟨X, rfl, hXg, hr⟩
  clear HC
  obtain ⟨ANH, cNH, ASH, cSH, AOH, cOH, AIH, cIH, hcl, hrk, hb⟩ := rg_parts hr (show X.g = gN from hXg) (HSN.out)
  rw [hcl]
  replace HA := Lib.hid ((HA.out.mono hb).and (stay_gr hrk))
  clear hr hXg hcl hrk hb
  obtain ⟨v21, hv, hb, -, hbx⟩ := laid1 v20 (.cells #[.int .i64 gN.roots, .slice ANH gN.nodes.length cNH, .slice ASH gN.sites.length cSH, .int .i64 gN.edges, .slice AOH gN.outer.length cOH, .slice AIH gN.inner.length cIH] 31)
  have HNv21 := Lib.hid hv
  replace HA := Lib.hid ((HA.out.mono hb).and (stay_box hbx))
  clear hv hb hbx
  have hc := implClosureOf_any P4 d4 l4 _ (by have := HL4.out; omega) HZ4.out (HA.out.now.1.1.1.1.2)
  rw [← HOC.out] at hc
  rw [← HGC.out] at hc
  have HC := Lib.hid hc
  clear hc
  go_wp2_with fail
  rw [← HNv21.out]
  (with_reducible refine HC.out.mono ?_)
  rintro e v22 ⟨X, rfl, hXg, hr⟩
  clear HC
  obtain ⟨ANI, cNI, ASI, cSI, AOI, cOI, AII, cII, hcl, hrk, hb⟩ := rg_parts hr (show X.g = gC from hXg) (HSC.out)
  rw [hcl]
  replace HA := Lib.hid ((HA.out.mono hb).and (stay_gr hrk))
  clear hr hXg hcl hrk hb
  obtain ⟨v23, hv, hb, -, hbx⟩ := laid1 v22 (.cells #[.int .i64 gC.roots, .slice ANI gC.nodes.length cNI, .slice ASI gC.sites.length cSI, .int .i64 gC.edges, .slice AOI gC.outer.length cOI, .slice AII gC.inner.length cII] 31)
  have HNv23 := Lib.hid hv
  replace HA := Lib.hid ((HA.out.mono hb).and (stay_box hbx))
  clear hv hb hbx
  have hc := specClosureOf_any P4 d4 l4 _ (by have := HL4.out; omega) HZ4.out (HA.out.now.1.1.1.1.1.1.2)
  rw [← HOC.out] at hc
  rw [← HGC.out] at hc
  have HC := Lib.hid hc
  clear hc
  go_wp2_with fail
  rw [← HNv23.out]
  (with_reducible refine HC.out.mono ?_)
  rintro e v24 ⟨X, rfl, hXg, hr⟩
  clear HC
  obtain ⟨ANJ, cNJ, ASJ, cSJ, AOJ, cOJ, AIJ, cIJ, hcl, hrk, hb⟩ := rg_parts hr (show X.g = gC from hXg) (HSC.out)
  rw [hcl]
  replace HA := Lib.hid ((HA.out.mono hb).and (stay_gr hrk))
  clear hr hXg hcl hrk hb
  obtain ⟨v25, hv, hb, -, hbx⟩ := laid1 v24 (.cells #[.int .i64 gC.roots, .slice ANJ gC.nodes.length cNJ, .slice ASJ gC.sites.length cSJ, .int .i64 gC.edges, .slice AOJ gC.outer.length cOJ, .slice AIJ gC.inner.length cIJ] 31)
  have HNv25 := Lib.hid hv
  replace HA := Lib.hid ((HA.out.mono hb).and (stay_box hbx))
  clear hv hb hbx
  have q0 : (oI != oI) = false := by cases oI <;> rfl
  have q1 : (oA != oA) = false := by cases oA <;> rfl
  have q2 : (oS != oS) = false := by cases oS <;> rfl
  have q3 : (oN != oN) = false := by cases oN <;> rfl
  have q4 : (oC != oC) = false := by cases oC <;> rfl
  obtain ⟨cA0, cA1, cA2, cA3, cA4, cA5⟩ := row6 (HA.out.now.1.1.1.1.1.1.1.1.1.1.1.1.1.1.1.1.1.1.1.1.1.1.1.2)
  obtain ⟨cB0, cB1, cB2, cB3, cB4, cB5⟩ := row6 (HA.out.now.1.1.1.1.1.1.1.1.1.1.1.1.1.1.1.1.1.1.1.1.1.2)
  rw [HNv25.out] at cA0 cA1 cA2 cA3 cA4 cA5 cB0 cB1 cB2 cB3 cB4 cB5
  have HC := Lib.hid (show Calls Tryz.prog 26 #[.agg #[.int .i64 gI.roots, .slice ANA gI.nodes.length cNA, .slice ASA gI.sites.length cSA, .int .i64 gI.edges, .slice AOA gI.outer.length cOA, .slice AIA gI.inner.length cIA], .agg #[.int .i64 gI.roots, .slice ANB gI.nodes.length cNB, .slice ASB gI.sites.length cSB, .int .i64 gI.edges, .slice AOB gI.outer.length cOB, .slice AIB gI.inner.length cIB]] _ _ from vGraph_same gI _ _ _ _ _ _ _ _ _ HSI.out (HA.out.now.1.1.1.1.1.1.1.1.1.1.1.1.1.1.1.1.1.1.1.1.1.1.1.1.2) (HA.out.now.1.1.1.1.1.1.1.1.1.1.1.1.1.1.1.1.1.1.1.1.1.1.2))
  go_wp2_with fail
  rw [← HNv25.out]
  (with_reducible refine HC.out.mono ?_)
  rintro e v26 ⟨rfl, hb⟩
  clear HC cA0 cA1 cA2 cA3 cA4 cA5 cB0 cB1 cB2 cB3 cB4 cB5
  replace HA := Lib.hid (HA.out.mono hb)
  clear hb
  obtain ⟨cC0, cC1, cC2, cC3, cC4, cC5⟩ := row6 (HA.out.now.1.1.1.1.1.1.1.1.1.1.1.1.1.1.1.1.1.1.1.2)
  obtain ⟨cD0, cD1, cD2, cD3, cD4, cD5⟩ := row6 (HA.out.now.1.1.1.1.1.1.1.1.1.1.1.1.1.1.1.1.1.2)
  have HC := Lib.hid (show Calls Tryz.prog 26 #[.agg #[.int .i64 gA.roots, .slice ANC gA.nodes.length cNC, .slice ASC gA.sites.length cSC, .int .i64 gA.edges, .slice AOC gA.outer.length cOC, .slice AIC gA.inner.length cIC], .agg #[.int .i64 gA.roots, .slice AND gA.nodes.length cND, .slice ASD gA.sites.length cSD, .int .i64 gA.edges, .slice AOD gA.outer.length cOD, .slice AID gA.inner.length cID]] _ _ from vGraph_same gA _ _ _ _ _ _ _ _ _ HSA.out (HA.out.now.1.1.1.1.1.1.1.1.1.1.1.1.1.1.1.1.1.1.1.1.2) (HA.out.now.1.1.1.1.1.1.1.1.1.1.1.1.1.1.1.1.1.1.2))
  go_wp2_with fail
  (with_reducible refine HC.out.mono ?_)
  rintro e v27 ⟨rfl, hb⟩
  clear HC cC0 cC1 cC2 cC3 cC4 cC5 cD0 cD1 cD2 cD3 cD4 cD5
  replace HA := Lib.hid (HA.out.mono hb)
  clear hb
  obtain ⟨cE0, cE1, cE2, cE3, cE4, cE5⟩ := row6 (HA.out.now.1.1.1.1.1.1.1.1.1.1.1.1.2)
  obtain ⟨cF0, cF1, cF2, cF3, cF4, cF5⟩ := row6 (HA.out.now.1.1.1.1.1.1.1.1.1.1.2)
  have HC := Lib.hid (show Calls Tryz.prog 26 #[.agg #[.int .i64 gS.roots, .slice ANE gS.nodes.length cNE, .slice ASE gS.sites.length cSE, .int .i64 gS.edges, .slice AOE gS.outer.length cOE, .slice AIE gS.inner.length cIE], .agg #[.int .i64 gS.roots, .slice ANF gS.nodes.length cNF, .slice ASF gS.sites.length cSF, .int .i64 gS.edges, .slice AOF gS.outer.length cOF, .slice AIF gS.inner.length cIF]] _ _ from vGraph_same gS _ _ _ _ _ _ _ _ _ HSS.out (HA.out.now.1.1.1.1.1.1.1.1.1.1.1.1.1.2) (HA.out.now.1.1.1.1.1.1.1.1.1.1.1.2))
  go_wp2_with fail
  (with_reducible refine HC.out.mono ?_)
  rintro e v28 ⟨rfl, hb⟩
  clear HC cE0 cE1 cE2 cE3 cE4 cE5 cF0 cF1 cF2 cF3 cF4 cF5
  replace HA := Lib.hid (HA.out.mono hb)
  clear hb
  obtain ⟨cG0, cG1, cG2, cG3, cG4, cG5⟩ := row6 (HA.out.now.1.1.1.1.1.1.2)
  obtain ⟨cH0, cH1, cH2, cH3, cH4, cH5⟩ := row6 (HA.out.now.1.1.1.1.2)
  have HC := Lib.hid (show Calls Tryz.prog 26 #[.agg #[.int .i64 gN.roots, .slice ANG gN.nodes.length cNG, .slice ASG gN.sites.length cSG, .int .i64 gN.edges, .slice AOG gN.outer.length cOG, .slice AIG gN.inner.length cIG], .agg #[.int .i64 gN.roots, .slice ANH gN.nodes.length cNH, .slice ASH gN.sites.length cSH, .int .i64 gN.edges, .slice AOH gN.outer.length cOH, .slice AIH gN.inner.length cIH]] _ _ from vGraph_same gN _ _ _ _ _ _ _ _ _ HSN.out (HA.out.now.1.1.1.1.1.1.1.2) (HA.out.now.1.1.1.1.1.2))
  go_wp2_with fail
  (with_reducible refine HC.out.mono ?_)
  rintro e v29 ⟨rfl, hb⟩
  clear HC cG0 cG1 cG2 cG3 cG4 cG5 cH0 cH1 cH2 cH3 cH4 cH5
  replace HA := Lib.hid (HA.out.mono hb)
  clear hb
  obtain ⟨cI0, cI1, cI2, cI3, cI4, cI5⟩ := row6 (HA.out.now.1.1.2)
  obtain ⟨cJ0, cJ1, cJ2, cJ3, cJ4, cJ5⟩ := row6 (HA.out.now.2)
  have HC := Lib.hid (show Calls Tryz.prog 26 #[.agg #[.int .i64 gC.roots, .slice ANI gC.nodes.length cNI, .slice ASI gC.sites.length cSI, .int .i64 gC.edges, .slice AOI gC.outer.length cOI, .slice AII gC.inner.length cII], .agg #[.int .i64 gC.roots, .slice ANJ gC.nodes.length cNJ, .slice ASJ gC.sites.length cSJ, .int .i64 gC.edges, .slice AOJ gC.outer.length cOJ, .slice AIJ gC.inner.length cIJ]] _ _ from vGraph_same gC _ _ _ _ _ _ _ _ _ HSC.out (HA.out.now.1.1.1.2) (HA.out.now.1.2))
  go_wp2_with fail
  (with_reducible refine HC.out.mono ?_)
  rintro e v30 ⟨rfl, hb⟩
  clear HC cI0 cI1 cI2 cI3 cI4 cI5 cJ0 cJ1 cJ2 cJ3 cJ4 cJ5
  replace HA := Lib.hid (HA.out.mono hb)
  clear hb
  obtain ⟨v31, hv, hb, -, hbx⟩ := laid1 v30 (.cells #[.string ⟨#[107]⟩, .int .i64 0, .int .i64 0] 44)
  have HNv31 := Lib.hid hv
  replace HA := Lib.hid ((HA.out.mono hb).and (stay_sig (sigK_reads hbx)))
  clear hv hb hbx q0 q1 q2 q3 q4
  have HZK := Lib.hid sigK_small
  cases hS : oS
  all_goals cases hN : oN
  all_goals cases hC : oC
  all_goals cases hA : oA
  all_goals cases hI : oI
  all_goals
    as_aux_lemma =>
      first
        | (have hq := (show oS = false from hS); clear hq)
        | (obtain ⟨cE0, cE1, cE2, cE3, cE4, cE5⟩ := row6 (HA.out.now.1.1.1.1.1.1.1.1.1.1.1.1.1.2)
           have hc := implIsSubstitution_any sigK gS _ _ _ _ _ _ HSS.out HZK.out (sigK_cap _) (HA.out.now.2) (HA.out.now.1.1.1.1.1.1.1.1.1.1.1.1.1.1.2)
           rw [io_sub HOS.out hS HGS.out] at hc
           have HC := Lib.hid hc
           clear hc
           go_wp2_with (rw [← HNv31.out])
           (with_reducible refine HC.out.mono ?_)
           rintro e vb ⟨rfl, hb⟩
           clear HC cE0 cE1 cE2 cE3 cE4 cE5
           replace HA := Lib.hid (HA.out.mono hb)
           clear hb)
      first
        | (have hq := (show oN = false from hN); clear hq)
        | (obtain ⟨cG0, cG1, cG2, cG3, cG4, cG5⟩ := row6 (HA.out.now.1.1.1.1.1.1.1.2)
           have hc := implIsSubstitution_any sigK gN _ _ _ _ _ _ HSN.out HZK.out (sigK_cap _) (HA.out.now.2) (HA.out.now.1.1.1.1.1.1.1.1.2)
           rw [io_new HON.out hN HGN.out] at hc
           have HC := Lib.hid hc
           clear hc
           go_wp2_with (rw [← HNv31.out])
           (with_reducible refine HC.out.mono ?_)
           rintro e vb ⟨rfl, hb⟩
           clear HC cG0 cG1 cG2 cG3 cG4 cG5
           replace HA := Lib.hid (HA.out.mono hb)
           clear hb)
      first
        | (have hq := (show oC = false from hC); clear hq)
        | (obtain ⟨cI0, cI1, cI2, cI3, cI4, cI5⟩ := row6 (HA.out.now.1.1.1.2)
           have hc := implIsWiring_any sigK gC _ _ _ _ _ _ HSC.out HZK.out (sigK_cap _) (HA.out.now.2) (HA.out.now.1.1.1.1.2)
           rw [io_clo HOC.out hC HGC.out] at hc
           have HC := Lib.hid hc
           clear hc
           go_wp2_with (rw [← HNv31.out])
           (with_reducible refine HC.out.mono ?_)
           rintro e vb ⟨rfl, hb⟩
           clear HC cI0 cI1 cI2 cI3 cI4 cI5
           replace HA := Lib.hid (HA.out.mono hb)
           clear hb)
      first
        | (have hq := (show oA = false from hA); clear hq)
        | (obtain ⟨cC0, cC1, cC2, cC3, cC4, cC5⟩ := row6 (HA.out.now.1.1.1.1.1.1.1.1.1.1.1.1.1.1.1.1.1.1.1.1.2)
           have hc := implIsPrime_any sig gA _ _ _ _ _ _ HSA.out HZS.out HCG.out (HA.out.now.1.1.1.1.1.1.1.1.1.1.1.1.1.1.1.1.1.1.1.1.1.1.1.1.1.1.1.2) (HA.out.now.1.1.1.1.1.1.1.1.1.1.1.1.1.1.1.1.1.1.1.1.1.2)
           rw [(io_atom HOA.out hA HGA.out).1] at hc
           have HC := Lib.hid hc
           clear hc
           go_wp2_with (rw [← HNv31.out])
           (with_reducible refine HC.out.mono ?_)
           rintro e vb ⟨rfl, hb⟩
           clear HC cC0 cC1 cC2 cC3 cC4 cC5
           replace HA := Lib.hid (HA.out.mono hb)
           clear hb)
      first
        | (have hq := (show oA = false from hA); clear hq)
        | (obtain ⟨cC0, cC1, cC2, cC3, cC4, cC5⟩ := row6 (HA.out.now.1.1.1.1.1.1.1.1.1.1.1.1.1.1.1.1.1.1.1.1.2)
           have hc := implIsLean_any sig gA _ _ _ _ _ _ HSA.out HZS.out HCG.out (HA.out.now.1.1.1.1.1.1.1.1.1.1.1.1.1.1.1.1.1.1.1.1.1.1.1.1.1.1.1.2) (HA.out.now.1.1.1.1.1.1.1.1.1.1.1.1.1.1.1.1.1.1.1.1.1.2)
           rw [(io_atom HOA.out hA HGA.out).2.1] at hc
           have HC := Lib.hid hc
           clear hc
           go_wp2_with (rw [← HNv31.out])
           (with_reducible refine HC.out.mono ?_)
           rintro e vb ⟨rfl, hb⟩
           clear HC cC0 cC1 cC2 cC3 cC4 cC5
           replace HA := Lib.hid (HA.out.mono hb)
           clear hb)
      first
        | (have hq := (show oA = false from hA); clear hq)
        | (obtain ⟨cC0, cC1, cC2, cC3, cC4, cC5⟩ := row6 (HA.out.now.1.1.1.1.1.1.1.1.1.1.1.1.1.1.1.1.1.1.1.1.2)
           have hc := isAgent_any sig gA _ _ _ _ _ _ HSA.out HZS.out HCG.out (HA.out.now.1.1.1.1.1.1.1.1.1.1.1.1.1.1.1.1.1.1.1.1.1.1.1.1.1.1.1.2) (HA.out.now.1.1.1.1.1.1.1.1.1.1.1.1.1.1.1.1.1.1.1.1.1.2)
           rw [(io_atom HOA.out hA HGA.out).2.2] at hc
           have HC := Lib.hid hc
           clear hc
           go_wp2_with (rw [← HNv31.out])
           (with_reducible refine HC.out.mono ?_)
           rintro e vb ⟨rfl, hb⟩
           clear HC cC0 cC1 cC2 cC3 cC4 cC5
           replace HA := Lib.hid (HA.out.mono hb)
           clear hb)
      first
        | (have hq := (show oI = false from hI)
           clear hq
           go_wp2_with (rw [← HNv31.out])
           go_ret
           exact ⟨rfl, (HA.out.now.1.1.1.1.1.1.1.1.1.1.1.1.1.1.1.1.1.1.1.1.1.1.1.1.1.1.1.1.1)⟩)
        | (have hq := (show oA = false from hA)
           exfalso
           have h1 := (io_ion HOI.out hI HGI.out).2.2.2
           rw [← HOA.out, hA] at h1
           cases h1)
        | (obtain ⟨hcm, hce, hgd, hat⟩ := io_ion HOI.out hI HGI.out
           have HCM := Lib.hid hcm
           have HGD := Lib.hid hgd
           have HEQ := Lib.hid (show compG gI (barG 1) = gA from by rw [hce, HGA.out, HOA.out, hat, if_pos rfl])
           clear hcm hce hgd hat
           have hc := (fun W (_ : Below w.heap.size w W) => implBarrenOf_any 1 W) _ (HA.out.now.1.1.1.1.1.1.1.1.1.1.1.1.1.1.1.1.1.1.1.1.1.1.1.1.1.1.1.1.1)
           rw [show inB 1 0 4 = true from rfl, if_pos rfl] at hc
           have HC := Lib.hid hc
           clear hc
           go_wp2_with (rw [← HNv31.out])
           (with_reducible refine HC.out.mono ?_)
           rintro e v80 ⟨X, rfl, hXg, hr⟩
           clear HC
           have HSB := Lib.hid (show SmallG (barG 1) from barG_small (by omega))
           obtain ⟨ANK, cNK, ASK, cSK, AOK, cOK, AIK, cIK, hcl, hrk, hb⟩ := rg_parts hr (show X.g = barG 1 from hXg) HSB.out
           rw [hcl]
           replace HA := Lib.hid (((HA.out.mono hb).and (stay_gr hrk)))
           clear hr hXg hcl hrk hb
           obtain ⟨v81, hv, hb, -, hbx⟩ := laid1 v80 (.cells #[.int .i64 (barG 1).roots, .slice ANK (barG 1).nodes.length cNK, .slice ASK (barG 1).sites.length cSK, .int .i64 (barG 1).edges, .slice AOK (barG 1).outer.length cOK, .slice AIK (barG 1).inner.length cIK] 31)
           have HNv81 := Lib.hid hv
           replace HA := Lib.hid ((HA.out.mono hb).and (stay_box hbx))
           clear hv hb hbx
           obtain ⟨cA0, cA1, cA2, cA3, cA4, cA5⟩ := row6 (HA.out.now.1.1.1.1.1.1.1.1.1.1.1.1.1.1.1.1.1.1.1.1.1.1.1.1.1.1.2)
           obtain ⟨cK0, cK1, cK2, cK3, cK4, cK5⟩ := row6 (HA.out.now.2)
           rw [HNv81.out] at cA0 cA1 cA2 cA3 cA4 cA5 cK0 cK1 cK2 cK3 cK4 cK5
           have hc := implComposeBigraphs_any sig gI (barG 1) _ _ _ _ _ _ _ _ _ _ HSI.out HSB.out HZS.out HCG.out (HA.out.now.1.1.1.1.1.1.1.1.1.1.1.1.1.1.1.1.1.1.1.1.1.1.1.1.1.1.1.1.1.2) (HA.out.now.1.1.1.1.1.1.1.1.1.1.1.1.1.1.1.1.1.1.1.1.1.1.1.1.1.1.1.2) (HA.out.now.1.2)
           rw [HCM.out] at hc
           rw [if_pos rfl] at hc
           rw [HEQ.out] at hc
           have HC := Lib.hid hc
           clear hc
           go_wp2_with fail
           rw [← HNv81.out]
           (with_reducible refine HC.out.mono ?_)
           rintro e v82 ⟨X, rfl, hXg, hr⟩
           clear HC cA0 cA1 cA2 cA3 cA4 cA5 cK0 cK1 cK2 cK3 cK4 cK5
           obtain ⟨ANZ, cNZ, ASZ, cSZ, AOZ, cOZ, AIZ, cIZ, hcl, hrk, hb⟩ := rg_parts hr (show X.g = gA from hXg) (HSA.out)
           rw [hcl]
           replace HA := Lib.hid ((HA.out.mono hb).and (stay_gr hrk))
           clear hr hXg hcl hrk hb
           obtain ⟨v83, hv, hb, -, hbx⟩ := laid1 v82 (.cells #[.int .i64 gA.roots, .slice ANZ gA.nodes.length cNZ, .slice ASZ gA.sites.length cSZ, .int .i64 gA.edges, .slice AOZ gA.outer.length cOZ, .slice AIZ gA.inner.length cIZ] 31)
           have HNv83 := Lib.hid hv
           replace HA := Lib.hid ((HA.out.mono hb).and (stay_box hbx))
           clear hv hb hbx
           obtain ⟨cZ0, cZ1, cZ2, cZ3, cZ4, cZ5⟩ := row6 (HA.out.now.2)
           obtain ⟨cC0, cC1, cC2, cC3, cC4, cC5⟩ := row6 (HA.out.now.1.1.1.1.1.1.1.1.1.1.1.1.1.1.1.1.1.1.1.1.1.1.1.1.2)
           rw [HNv83.out] at cZ0 cZ1 cZ2 cZ3 cZ4 cZ5 cC0 cC1 cC2 cC3 cC4 cC5
           have HC := Lib.hid (show Calls Tryz.prog 26 #[.agg #[.int .i64 gA.roots, .slice ANZ gA.nodes.length cNZ, .slice ASZ gA.sites.length cSZ, .int .i64 gA.edges, .slice AOZ gA.outer.length cOZ, .slice AIZ gA.inner.length cIZ], .agg #[.int .i64 gA.roots, .slice ANC gA.nodes.length cNC, .slice ASC gA.sites.length cSC, .int .i64 gA.edges, .slice AOC gA.outer.length cOC, .slice AIC gA.inner.length cIC]] _ _ from vGraph_same gA _ _ _ _ _ _ _ _ _ HSA.out (HA.out.now.1.2) (HA.out.now.1.1.1.1.1.1.1.1.1.1.1.1.1.1.1.1.1.1.1.1.1.1.1.1.1.2))
           go_wp2_with fail
           rw [← HNv83.out]
           (with_reducible refine HC.out.mono ?_)
           rintro e v84 ⟨rfl, hb⟩
           clear HC cZ0 cZ1 cZ2 cZ3 cZ4 cZ5 cC0 cC1 cC2 cC3 cC4 cC5
           replace HA := Lib.hid (HA.out.mono hb)
           clear hb
           obtain ⟨cA0, cA1, cA2, cA3, cA4, cA5⟩ := row6 (HA.out.now.1.1.1.1.1.1.1.1.1.1.1.1.1.1.1.1.1.1.1.1.1.1.1.1.1.1.1.1.2)
           have hc := implIsGuarding_any sig gI _ _ _ _ _ _ HSI.out HZS.out HCG.out (HA.out.now.1.1.1.1.1.1.1.1.1.1.1.1.1.1.1.1.1.1.1.1.1.1.1.1.1.1.1.1.1.1.1.2) (HA.out.now.1.1.1.1.1.1.1.1.1.1.1.1.1.1.1.1.1.1.1.1.1.1.1.1.1.1.1.1.1.2)
           rw [HGD.out] at hc
           have HC := Lib.hid hc
           clear hc
           go_wp2_with fail
           (with_reducible refine HC.out.mono ?_)
           rintro e v85 ⟨rfl, hb⟩
           clear HC cA0 cA1 cA2 cA3 cA4 cA5
           replace HA := Lib.hid (HA.out.mono hb)
           clear hb
           go_wp2_with fail
           go_ret
           exact ⟨rfl, (HA.out.now.1.1.1.1.1.1.1.1.1.1.1.1.1.1.1.1.1.1.1.1.1.1.1.1.1.1.1.1.1.1.1.1.1)⟩)

end Go.Proofs.YtijkdpdmclkmlaaGreatDoor
