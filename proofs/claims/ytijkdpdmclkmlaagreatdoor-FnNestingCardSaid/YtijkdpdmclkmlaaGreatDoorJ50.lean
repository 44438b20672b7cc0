/- Plain: a valid bigraph is a small one. The law of nesting walked: it answers true for each code. Arguments opened: from the form's reading of a slice to the words of XBase. An argument opened: from the form's reading of a slice of bytes to the words of XBase. A world for the witness of a row that lists Go's table of first bytes and of accepted ranges: the settled one, the two tables holding what their initialisers lay. -/
import Derived.Test.YtijkdpdmclkmlaaGreatDoorProg
import Derived.Test.YtijkdpdmclkmlaaGreatDoorJ9
import Derived.Test.YtijkdpdmclkmlaaGreatDoorJ8
import Derived.Test.YtijkdpdmclkmlaaGreatDoorJ32
import Derived.Test.YtijkdpdmclkmlaaGreatDoorJ1
import Derived.Test.YtijkdpdmclkmlaaGreatDoorJ33
import Derived.Test.YtijkdpdmclkmlaaGreatDoorJ30
import Derived.Test.YtijkdpdmclkmlaaGreatDoorJ44
import Derived.Test.YtijkdpdmclkmlaaGreatDoorJ42
import Derived.Test.YtijkdpdmclkmlaaGreatDoorJ46
import Derived.Test.YtijkdpdmclkmlaaGreatDoorJ49
import Derived.Test.YtijkdpdmclkmlaaGreatDoorJ48
import Derived.BigQuiet
import Derived.Test.YtijkdpdmclkmlaaGreatDoorJ0
import Derived.ProofKit
import Derived.Test.YtijkdpdmclkmlaaGreatDoorJ11
import Derived.Test.YtijkdpdmclkmlaaGreatDoorRows
import Derived.WalkKit
import Derived.Deep.DeepHandedRow
set_option linter.unusedSimpArgs false
set_option linter.unusedVariables false
set_option maxRecDepth 100000
set_option maxHeartbeats 16000000
namespace Go.Proofs.YtijkdpdmclkmlaaGreatDoor
open Go.RowKit
theorem name_sizeP {s : ByteArray} (h : nameB s = true) : s.size ≤ 4 := by
  unfold nameB at h
  simp only [Bool.and_eq_true] at h
  have := h.1
  unfold inB at this
  simp only [Bool.and_eq_true, decide_eq_true_eq] at this
  omega
/-- A valid bigraph is a small one. -/
theorem good_smallP {sig : List Ct} {g : Gr} (h : GoodP sig g) : SmallG g := by
  have hsz : ∀ l : List ByteArray, namesB l = true → l.length ≤ 16 ∧ ∀ s ∈ l, s.size ≤ 1000 := fun l hl => ⟨names_len hl, fun s hs => by
    obtain ⟨i, hi, rfl⟩ := List.getElem_of_mem hs
    have h1 := (names_at hl hi).1
    rw [show l.getD i default = l[i] from by simp [List.getD, hi]] at h1
    have := name_sizeP h1
    omega⟩
  have ho := hsz _ h.on
  have hi := hsz _ h.inn
  have hil : (innerN g).length = g.inner.length := by unfold innerN; rw [List.length_map]
  refine { nodes := by have := h.n8; omega, links := fun x hx => ?_, sites := by have := h.s4; omega, outer := by omega, onames := ho.2, inner := by omega, inames := fun x hx => hi.2 _ (List.mem_map.2 ⟨x, hx, rfl⟩), edges := by have := h.e; omega, roots := by have := h.r; omega, pars := fun x hx => ?_, sits := fun p hp => ?_ }
  · obtain ⟨i, hi, rfl⟩ := List.getElem_of_mem hx
    obtain ⟨hc, _, hp, _⟩ := h.nod i _ (List.getElem?_eq_getElem hi)
    have hs := h.sg
    unfold sigB at hs
    rw [Bool.and_eq_true] at hs
    have h2 := allR_get hs.2 (k := (g.nodes[i].1).toNat) (by omega)
    unfold ctB at h2
    simp only [Bool.and_eq_true] at h2
    have h3 := h2.1.1.2
    unfold inB at h3
    simp only [Bool.and_eq_true, decide_eq_true_eq] at h3
    unfold portsA at hp
    omega
  · obtain ⟨i, hi, rfl⟩ := List.getElem_of_mem hx
    have hu := (h.nod i _ (List.getElem?_eq_getElem hi)).2.1
    have := h.r
    by_cases h0 : g.nodes[i].2.1 < 0
    · have := hu.1 h0; omega
    omega
  have hu := h.sit p hp
  have := h.r
  by_cases h0 : p < 0
  · have := hu.1 h0; omega
  omega

section
variable {o : Bool} {sig : List Ct} {a b g : Gr}
theorem ne_law (ho : o = nestB sig a b) (h : o = true) : (inB 0 0 4 && namesB b.outer) = true ∧ parB sig a (idG 0 b.outer) = true ∧ parG a (idG 0 b.outer) = overG a b.outer (sortS (a.outer ++ b.outer)) ∧
  compR sig (overG a b.outer (sortS (a.outer ++ b.outer))) b = true ∧ compG (overG a b.outer (sortS (a.outer ++ b.outer))) b = nestG a b (sortS (a.outer ++ b.outer)) ∧ GoodP sig (overG a b.outer (sortS (a.outer ++ b.outer))) := nest_law (ho.symm.trans h)
theorem ne_g (hg : g = if o then nestG a b (sortS (a.outer ++ b.outer)) else zeroG) (h : o = true) : g = nestG a b (sortS (a.outer ++ b.outer)) := by
 rw [hg, h]; rfl
end

theorem lawFnNesting (A : Option Addr) (bs : List Int) (c : Nat) (w : World) (hA : Cells w A (u8s bs)) (hrng : ∀ x ∈ bs, 0 ≤ x ∧ x < 256) (hlen : bs.length ≤ maxLen) :
  Calls Tryz.prog 8 #[.slice A bs.length c] w fun e w' => e = .returned (.bool true) ∧ Below w.heap.size w w' := by
 have HB := Lib.hid (rBig_any A bs.length c w hlen)
 by_cases hbig : 65536 < bs.length
 ·rw [show decide (65536 < bs.length) = true from by simp [hbig]] at HB
  clear hbig hlen hA hrng
  go_enter Tryz.func8, Tryz.ntmps8
  go_wp2_with fail
  (with_reducible refine HB.out.mono ?_)
  rintro e w1 ⟨rfl, rfl⟩
  go_wp2_with fail
  go_ret
  exact ⟨rfl, Below.refl _ _⟩
 rw [show decide (65536 < bs.length) = false from by simp [hbig]] at HB
 have HLEN := Lib.hid (show bs.length ≤ 65536 from by omega)
 have HRNG := Lib.hid hrng
 have HA := Lib.hid ((stay_bel (Below.refl w.heap.size w)).and (stay_cells hA))
 clear hbig hlen hA hrng
 go_enter Tryz.func8, Tryz.ntmps8
 go_wp2_with fail
 (with_reducible refine HB.out.mono ?_)
 rintro e w' ⟨rfl, rfl⟩
 clear HB
 have HC := Lib.hid (drawNestBigraphs_any A bs c _ (HA.out.now.2) HRNG.out (by have := HLEN.out; omega))
 go_wp2_with fail
 (with_reducible refine HC.out.mono ?_)
 rintro e v1 ⟨gv, sig, ANA, cNA, ASA, cSA, AOA, cOA, AIA, cIA, ANB, cNB, ASB, cSB, AOB, cOB, AIB, cIB, gA, gB, rfl, hsz, hcap, hsg, hsmA, hgA, hsmB, hgB, hb⟩
 clear HC
 replace HA := Lib.hid ((((HA.out.mono hb).and (stay_sig hsg)).and (stay_gr hgA)).and (stay_gr hgB))
 have HZS := Lib.hid hsz
 have HCG := Lib.hid hcap
 have HSA := Lib.hid hsmA
 have HSB := Lib.hid hsmB
 obtain ⟨AG, cG, rfl, _⟩ := hsg.form
 clear hsz hcap hsg hsmA hgA hsmB hgB hb
 obtain ⟨v2, hv, hb, hs, hbx⟩ := laid1 v1 (.cells #[.int .i64 gA.roots, .slice ANA gA.nodes.length cNA, .slice ASA gA.sites.length cSA, .int .i64 gA.edges, .slice AOA gA.outer.length cOA, .slice AIA gA.inner.length cIA] 31)
 have HNv2 := Lib.hid hv
 replace HA := Lib.hid ((HA.out.mono hb).and (stay_box hbx))
 clear hv hb hbx
 obtain ⟨v3, hv, hb, -, hbx⟩ := laid1 v2 (.cells #[.int .i64 gB.roots, .slice ANB gB.nodes.length cNB, .slice ASB gB.sites.length cSB, .int .i64 gB.edges, .slice AOB gB.outer.length cOB, .slice AIB gB.inner.length cIB] 31)
 rw [hs] at hbx
 have HNv3 := Lib.hid hv
 replace HA := Lib.hid ((HA.out.mono hb).and (stay_box hbx))
 clear hv hb hbx hs
 obtain ⟨oN, hoN⟩ : ∃ oN, oN = nestB sig gA gB := ⟨_, rfl⟩
 obtain ⟨gN, hgN⟩ : ∃ gN, gN = (if oN then nestG gA gB (sortS (gA.outer ++ gB.outer)) else zeroG) := ⟨_, rfl⟩
 have HON := Lib.hid hoN
 have HGN := Lib.hid hgN
 have HSN := Lib.hid (show SmallG gN from by rw [HGN.out]; cases h : oN; exact zeroG_small; exact good_smallP (nest_good_of (hoN.symm.trans h)))
 clear hoN hgN
 obtain ⟨cA0, cA1, cA2, cA3, cA4, cA5⟩ := row6 (HA.out.now.1.2)
 obtain ⟨cB0, cB1, cB2, cB3, cB4, cB5⟩ := row6 (HA.out.now.2)
 rw [HNv3.out, HNv2.out] at cA0 cA1 cA2 cA3 cA4 cA5 cB0 cB1 cB2 cB3 cB4 cB5
 have hc := implNestBigraphs_any sig gA gB _ _ _ _ _ _ _ _ _ _ HSA.out HSB.out HZS.out HCG.out (HA.out.now.1.1.1.1.2) (HA.out.now.1.1.1.2) (HA.out.now.1.1.2)
 rw [← HON.out] at hc
 rw [← HGN.out] at hc
 have HC := Lib.hid hc
 clear hc
 go_wp2_with fail
 rw [← HNv2.out, ← HNv3.out]
 (with_reducible refine HC.out.mono ?_)
 rintro e v4 ⟨X, rfl, hXg, hr⟩
 clear HC cA0 cA1 cA2 cA3 cA4 cA5 cB0 cB1 cB2 cB3 cB4 cB5
 obtain ⟨ANC, cNC, ASC, cSC, AOC, cOC, AIC, cIC, hcl, hrk, hb⟩ := rg_parts hr (show X.g = gN from hXg) (HSN.out)
 rw [hcl]
 replace HA := Lib.hid ((HA.out.mono hb).and (stay_gr hrk))
 clear hr hXg hcl hrk hb
 obtain ⟨v5, hv, hb, -, hbx⟩ := laid1 v4 (.cells #[.int .i64 gN.roots, .slice ANC gN.nodes.length cNC, .slice ASC gN.sites.length cSC, .int .i64 gN.edges, .slice AOC gN.outer.length cOC, .slice AIC gN.inner.length cIC] 31)
 have HNv5 := Lib.hid hv
 replace HA := Lib.hid ((HA.out.mono hb).and (stay_box hbx))
 clear hv hb hbx
 obtain ⟨cA0, cA1, cA2, cA3, cA4, cA5⟩ := row6 (HA.out.now.1.1.1.2)
 obtain ⟨cB0, cB1, cB2, cB3, cB4, cB5⟩ := row6 (HA.out.now.1.1.2)
 rw [HNv5.out] at cA0 cA1 cA2 cA3 cA4 cA5 cB0 cB1 cB2 cB3 cB4 cB5
 have hc := specNestBigraphs_any sig gA gB _ _ _ _ _ _ _ _ _ _ HSA.out HSB.out HZS.out (HA.out.now.1.1.1.1.1.1.2) (HA.out.now.1.1.1.1.1.2) (HA.out.now.1.1.1.1.2)
 rw [← HON.out] at hc
 rw [← HGN.out] at hc
 have HC := Lib.hid hc
 clear hc
 go_wp2_with fail
 rw [← HNv5.out]
 (with_reducible refine HC.out.mono ?_)
 rintro e v6 ⟨X, rfl, hXg, hr⟩
 clear HC cA0 cA1 cA2 cA3 cA4 cA5 cB0 cB1 cB2 cB3 cB4 cB5
 obtain ⟨AND, cND, ASD, cSD, AOD, cOD, AID, cID, hcl, hrk, hb⟩ := rg_parts hr (show X.g = gN from hXg) (HSN.out)
 rw [hcl]
 replace HA := Lib.hid ((HA.out.mono hb).and (stay_gr hrk))
 clear hr hXg hcl hrk hb
 obtain ⟨v7, hv, hb, -, hbx⟩ := laid1 v6 (.cells #[.int .i64 gN.roots, .slice AND gN.nodes.length cND, .slice ASD gN.sites.length cSD, .int .i64 gN.edges, .slice AOD gN.outer.length cOD, .slice AID gN.inner.length cID] 31)
 have HNv7 := Lib.hid hv
 replace HA := Lib.hid ((HA.out.mono hb).and (stay_box hbx))
 clear hv hb hbx
 have q1 : (oN != oN) = false := by cases oN <;> rfl
 obtain ⟨cC0, cC1, cC2, cC3, cC4, cC5⟩ := row6 (HA.out.now.1.1.2)
 obtain ⟨cD0, cD1, cD2, cD3, cD4, cD5⟩ := row6 (HA.out.now.2)
 rw [HNv7.out] at cC0 cC1 cC2 cC3 cC4 cC5 cD0 cD1 cD2 cD3 cD4 cD5
 have HC := Lib.hid (show Calls Tryz.prog 53 #[.agg #[.int .i64 gN.roots, .slice ANC gN.nodes.length cNC, .slice ASC gN.sites.length cSC, .int .i64 gN.edges, .slice AOC gN.outer.length cOC, .slice AIC gN.inner.length cIC], .agg #[.int .i64 gN.roots, .slice AND gN.nodes.length cND, .slice ASD gN.sites.length cSD, .int .i64 gN.edges, .slice AOD gN.outer.length cOD, .slice AID gN.inner.length cID]] _ _ from rSame_same gN _ _ _ _ _ _ _ _ _ HSN.out (HA.out.now.1.1.1.2) (HA.out.now.1.2))
 go_wp2_with fail
 rw [← HNv7.out]
 (with_reducible refine HC.out.mono ?_)
 rintro e v8 ⟨rfl, hb⟩
 clear HC cC0 cC1 cC2 cC3 cC4 cC5 cD0 cD1 cD2 cD3 cD4 cD5
 replace HA := Lib.hid (HA.out.mono hb)
 clear hb q1
 cases hN : oN
 ·clear hN
  go_wp2_with fail
  go_ret
  exact ⟨rfl, (HA.out.now.1.1.1.1.1.1.1.1.1.1)⟩
 have HL := Lib.hid (ne_law HON.out hN)
 have HG := Lib.hid (ne_g HGN.out hN)
 clear hN
 obtain ⟨gI, hgI⟩ : ∃ gI, gI = idG 0 gB.outer := ⟨_, rfl⟩
 have HGI := Lib.hid hgI
 have HSI := Lib.hid (show SmallG gI from by rw [hgI]; exact idG_small (by omega) HSB.out.outer HSB.out.onames)
 obtain ⟨gP, hgP⟩ : ∃ gP, gP = overG gA gB.outer (sortS (gA.outer ++ gB.outer)) := ⟨_, rfl⟩
 have HGP := Lib.hid hgP
 have HSP := Lib.hid (show SmallG gP from by rw [hgP]; exact good_smallP HL.out.2.2.2.2.2)
 have HPP := Lib.hid (show parB sig gA gI = true ∧ SmallG (parG gA gI) ∧ parG gA gI = gP from by rw [hgI, HL.out.2.2.1, ← hgP]; exact ⟨HL.out.2.1, HSP.out, rfl⟩)
 have HCP := Lib.hid (show compR sig gP gB = true ∧ compG gP gB = gN from by rw [hgP]; exact ⟨HL.out.2.2.2.1, HL.out.2.2.2.2.1.trans HG.out.symm⟩)
 clear hgI hgP
 obtain ⟨cB0, cB1, cB2, cB3, cB4, cB5⟩ := row6 (HA.out.now.1.1.1.1.2)
 have hc := implIdentityOf_any 0 AOB cOB gB.outer _ HSB.out.outer HSB.out.onames (by obtain ⟨A', c', e, h⟩ := ((HA.out.now.1.1.1.1.1.1.2)).o; cases e; exact h)
 rw [HL.out.1] at hc
 rw [if_pos rfl] at hc
 have HC := Lib.hid hc
 clear hc
 go_wp2_with fail
 (with_reducible refine HC.out.mono ?_)
 rintro e v9 ⟨X, rfl, hXg, hr⟩
 clear HC cB0 cB1 cB2 cB3 cB4 cB5
 obtain ⟨ANE, cNE, ASE, cSE, AOE, cOE, AIE, cIE, hcl, hrk, hb⟩ := rg_parts hr (show X.g = gI from hXg.trans HGI.out.symm) (HSI.out)
 rw [hcl]
 replace HA := Lib.hid ((HA.out.mono hb).and (stay_gr hrk))
 clear hr hXg hcl hrk hb
 obtain ⟨v10, hv, hb, -, hbx⟩ := laid1 v9 (.cells #[.int .i64 gI.roots, .slice ANE gI.nodes.length cNE, .slice ASE gI.sites.length cSE, .int .i64 gI.edges, .slice AOE gI.outer.length cOE, .slice AIE gI.inner.length cIE] 31)
 have HNv10 := Lib.hid hv
 replace HA := Lib.hid ((HA.out.mono hb).and (stay_box hbx))
 clear hv hb hbx
 obtain ⟨cA0, cA1, cA2, cA3, cA4, cA5⟩ := row6 (HA.out.now.1.1.1.1.1.1.1.2)
 obtain ⟨cE0, cE1, cE2, cE3, cE4, cE5⟩ := row6 (HA.out.now.2)
 rw [HNv10.out] at cA0 cA1 cA2 cA3 cA4 cA5 cE0 cE1 cE2 cE3 cE4 cE5
 have HC := Lib.hid (implParallelProduct_any sig gA gI _ _ _ _ _ _ _ _ _ _ HSA.out HSI.out HZS.out HCG.out HPP.out.1 HPP.out.2.1 (HA.out.now.1.1.1.1.1.1.1.1.1.1.2) (HA.out.now.1.1.1.1.1.1.1.1.1.2) (HA.out.now.1.2))
 go_wp2_with fail
 rw [← HNv10.out]
 (with_reducible refine HC.out.mono ?_)
 rintro e v11 ⟨X, rfl, hXg, hr⟩
 clear HC cA0 cA1 cA2 cA3 cA4 cA5 cE0 cE1 cE2 cE3 cE4 cE5
 obtain ⟨ANF, cNF, ASF, cSF, AOF, cOF, AIF, cIF, hcl, hrk, hb⟩ := rg_parts hr (show X.g = gP from hXg.trans HPP.out.2.2) (HSP.out)
 rw [hcl]
 replace HA := Lib.hid ((HA.out.mono hb).and (stay_gr hrk))
 clear hr hXg hcl hrk hb
 obtain ⟨v12, hv, hb, -, hbx⟩ := laid1 v11 (.cells #[.int .i64 gP.roots, .slice ANF gP.nodes.length cNF, .slice ASF gP.sites.length cSF, .int .i64 gP.edges, .slice AOF gP.outer.length cOF, .slice AIF gP.inner.length cIF] 31)
 have HNv12 := Lib.hid hv
 replace HA := Lib.hid ((HA.out.mono hb).and (stay_box hbx))
 clear hv hb hbx
 obtain ⟨cF0, cF1, cF2, cF3, cF4, cF5⟩ := row6 (HA.out.now.2)
 obtain ⟨cB0, cB1, cB2, cB3, cB4, cB5⟩ := row6 (HA.out.now.1.1.1.1.1.1.1.1.2)
 rw [HNv12.out] at cF0 cF1 cF2 cF3 cF4 cF5 cB0 cB1 cB2 cB3 cB4 cB5
 have hc := implComposeBigraphs_any sig gP gB _ _ _ _ _ _ _ _ _ _ HSP.out HSB.out HZS.out HCG.out (HA.out.now.1.1.1.1.1.1.1.1.1.1.1.1.2) (HA.out.now.1.2) (HA.out.now.1.1.1.1.1.1.1.1.1.1.2)
 rw [HCP.out.1] at hc
 rw [if_pos rfl] at hc
 have HC := Lib.hid hc
 clear hc
 go_wp2_with fail
 rw [← HNv12.out]
 (with_reducible refine HC.out.mono ?_)
 rintro e v13 ⟨X, rfl, hXg, hr⟩
 clear HC cF0 cF1 cF2 cF3 cF4 cF5 cB0 cB1 cB2 cB3 cB4 cB5
 obtain ⟨ANG, cNG, ASG, cSG, AOG, cOG, AIG, cIG, hcl, hrk, hb⟩ := rg_parts hr (show X.g = gN from hXg.trans HCP.out.2) (HSN.out)
 rw [hcl]
 replace HA := Lib.hid ((HA.out.mono hb).and (stay_gr hrk))
 clear hr hXg hcl hrk hb
 obtain ⟨v14, hv, hb, -, hbx⟩ := laid1 v13 (.cells #[.int .i64 gN.roots, .slice ANG gN.nodes.length cNG, .slice ASG gN.sites.length cSG, .int .i64 gN.edges, .slice AOG gN.outer.length cOG, .slice AIG gN.inner.length cIG] 31)
 have HNv14 := Lib.hid hv
 replace HA := Lib.hid ((HA.out.mono hb).and (stay_box hbx))
 clear hv hb hbx
 obtain ⟨cG0, cG1, cG2, cG3, cG4, cG5⟩ := row6 (HA.out.now.2)
 obtain ⟨cC0, cC1, cC2, cC3, cC4, cC5⟩ := row6 (HA.out.now.1.1.1.1.1.1.1.1.2)
 rw [HNv14.out] at cG0 cG1 cG2 cG3 cG4 cG5 cC0 cC1 cC2 cC3 cC4 cC5
 have HC := Lib.hid (show Calls Tryz.prog 53 #[.agg #[.int .i64 gN.roots, .slice ANG gN.nodes.length cNG, .slice ASG gN.sites.length cSG, .int .i64 gN.edges, .slice AOG gN.outer.length cOG, .slice AIG gN.inner.length cIG], .agg #[.int .i64 gN.roots, .slice ANC gN.nodes.length cNC, .slice ASC gN.sites.length cSC, .int .i64 gN.edges, .slice AOC gN.outer.length cOC, .slice AIC gN.inner.length cIC]] _ _ from rSame_same gN _ _ _ _ _ _ _ _ _ HSN.out (HA.out.now.1.2) (HA.out.now.1.1.1.1.1.1.1.1.1.2))
 go_wp2_with fail
 rw [← HNv14.out]
 (with_reducible refine HC.out.mono ?_)
 rintro e v15 ⟨rfl, hb⟩
 clear HC cG0 cG1 cG2 cG3 cG4 cG5 cC0 cC1 cC2 cC3 cC4 cC5
 replace HA := Lib.hid (HA.out.mono hb)
 clear hb
 go_wp2_with fail
 go_ret
 exact ⟨rfl, (HA.out.now.1.1.1.1.1.1.1.1.1.1.1.1.1.1.1.1)⟩

theorem addr_of_cell {w : World} {x : Addr} {v : Value} (h : w.cell? (x.add 0) = some v) : ∃ b o, x = ⟨b, o, none⟩ := by
  obtain ⟨b, o, s⟩ := x
  cases s with
  | none => exact ⟨b, o, rfl⟩
  | some q =>
    exfalso
    have k : w.cell? ⟨b, o, some q⟩ = none := by simp only [World.cell?]; split <;> simp
    have e : (⟨b, o, some q⟩ : Addr).add 0 = ⟨b, o, some q⟩ := by simp [Addr.add]
    rw [e, k] at h
    cases h

theorem Cells.of_add {w : World} {x : Addr} {xs : List Value} (h : ∀ j u, xs[j]? = some u → w.cell? (x.add j) = some u) : Cells w (some x) xs := fun j u hj => by
  have hl := (List.getElem?_eq_some_iff.1 hj).1
  obtain ⟨b, o, rfl⟩ := addr_of_cell (h 0 xs[0] (List.getElem?_eq_getElem _))
  refine ⟨b, o, rfl, ?_⟩
  have := h j u hj
  rwa [Addr.add_lit] at this

open Go.ChangeShapes Go.WideShapes Go.ChangeAt in
theorem open_bytes {H : Type} {enc : TypeId × Value → H} {P : Program} {w : World} {base : Nat} {spare : Nat → Bool} {held : Bool} {t e : TypeId} {fuel len cap : Nat} {a : Option Addr} {x : DataW H × List MemPlace}
    (ht : P.underlying t = some (.slice e)) (he : P.underlying e = some (.int .u8)) (hC : P.cellsOf e = 1) (h : DataW.trod enc P w base spare held fuel t (Value.slice a len cap).cells.toList = some x) :
    ∃ A c bs, Value.slice a len cap = .slice A bs.length c ∧ Cells w A (u8s bs) ∧ (∀ x ∈ bs, 0 ≤ x ∧ x < 256) ∧ bs.length ≤ maxLen ∧ bs.length ≤ c := by
  rcases open_ints ht he hC h with ⟨hcs, _⟩ | ⟨x, l, c, zs, hcs, _, hl, hm, hz, _, hcell, hwz⟩
  · simp [Value.cells] at hcs
    obtain ⟨rfl, rfl, rfl⟩ := hcs
    exact ⟨none, 0, [], rfl, Cells.nil _ _, (fun x hx => by cases hx), by unfold maxLen; simp, by simp⟩
  simp [Value.cells] at hcs
  obtain ⟨rfl, rfl, rfl⟩ := hcs
  have hzl : len ≤ zs.length := by rw [hz]; split <;> omega
  clear hz
  have e1 : (zs.take len).length = len := by rw [List.length_take]; omega
  refine ⟨some x, cap, zs.take len, by rw [e1], Cells.of_add fun j u hj => ?_, fun y hy => ?_, by rw [e1]; omega, by rw [e1]; omega⟩
  · have hjl : j < len := by have := (List.getElem?_eq_some_iff.1 hj).1; simp at this; omega
    have e2 : (u8s (zs.take len))[j]? = some (.int .u8 (zs.getD j 0)) := by
      have hjz : j < zs.length := by omega
      simp [u8s, List.getElem?_take, hjl, hjz, List.getD]
    rw [e2] at hj
    injection hj with hj
    subst hj
    exact hcell j (by omega)
  have := hwz y (List.mem_of_mem_take hy)
  simp only [Lit.wf, Bool.and_eq_true, decide_eq_true_eq] at this
  rw [show IntKind.u8.min = 0 from rfl, show IntKind.u8.max = 255 from rfl] at this
  omega

def laidObj (cs : Array Value) : Obj → Obj
  | .cells _ t frozen => .cells cs t frozen
  | o => o

def laidHeap (h : Array Obj) : Array Obj :=
  (h.modify 0 (laidObj (Pinned.utf8FirstZ.map (fun n : Nat => Value.int .u8 n)).toArray)).modify 1 (laidObj #[.int .u8 128, .int .u8 191, .int .u8 160, .int .u8 191, .int .u8 128, .int .u8 159, .int .u8 144, .int .u8 191, .int .u8 128, .int .u8 143, .int .u8 0, .int .u8 0, .int .u8 0, .int .u8 0, .int .u8 0, .int .u8 0, .int .u8 0, .int .u8 0, .int .u8 0, .int .u8 0, .int .u8 0, .int .u8 0, .int .u8 0, .int .u8 0, .int .u8 0, .int .u8 0, .int .u8 0, .int .u8 0, .int .u8 0, .int .u8 0, .int .u8 0, .int .u8 0])

noncomputable def laidWorld (os : Os) : World :=
  { World.holding Tryz.prog os ⟨#[], #[], []⟩ with heap := laidHeap (World.holding Tryz.prog os ⟨#[], #[], []⟩).heap }

end Go.Proofs.YtijkdpdmclkmlaaGreatDoor
