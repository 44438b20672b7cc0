/- The law of inverses walked: it answers true for each drawn bigraph. -/
import Derived.Test.YtijkdpdmclkmlaaGreatDoorProg
import Derived.Test.YtijkdpdmclkmlaaGreatDoorJ0
import Derived.Test.YtijkdpdmclkmlaaGreatDoorJ35
import Derived.Test.YtijkdpdmclkmlaaGreatDoorJ46
import Derived.Test.YtijkdpdmclkmlaaGreatDoorJ47
import Derived.Test.YtijkdpdmclkmlaaGreatDoorJ48
import Derived.Test.YtijkdpdmclkmlaaGreatDoorJ30
import Derived.BigQuiet
set_option linter.unusedSimpArgs false
set_option linter.unusedVariables false
set_option maxRecDepth 100000
set_option maxHeartbeats 16000000
namespace Go.Proofs.YtijkdpdmclkmlaaGreatDoor
open Go.RowKit
theorem name_size {s : ByteArray} (h : nameB s = true) : s.size ≤ 4 := by
 unfold nameB at h
 simp only [Bool.and_eq_true] at h
 have := h.1
 unfold inB at this
 simp only [Bool.and_eq_true, decide_eq_true_eq] at this
 omega
/-- A valid bigraph is a small one. -/
theorem good_small {sig : List Ct} {g : Gr} (h : GoodP sig g) : SmallG g := by
 have hsz : ∀ l : List ByteArray, namesB l = true → l.length ≤ 16 ∧ ∀ s ∈ l, s.size ≤ 1000 := fun l hl => ⟨names_len hl, fun s hs => by
  obtain ⟨i, hi, rfl⟩ := List.getElem_of_mem hs
  have h1 := (names_at hl hi).1
  rw [show l.getD i default = l[i] from by simp [List.getD, hi]] at h1
  have := name_size h1
  omega⟩
 have ho := hsz _ h.on
 have hi := hsz _ h.inn
 have hil : (innerN g).length = g.inner.length := by unfold innerN; rw [List.length_map]
 refine { nodes := by have := h.n8; omega, links := fun x hx => ?_, sites := by have := h.s4; omega, outer := by omega, onames := ho.2, inner := by omega, inames := fun x hx => hi.2 _ (List.mem_map.2 ⟨x, hx, rfl⟩), edges := by have := h.e; omega, roots := by have := h.r; omega, pars := fun x hx => ?_, sits := fun p hp => ?_ }
 ·obtain ⟨i, hi, rfl⟩ := List.getElem_of_mem hx
  obtain ⟨hc, _, hp, _⟩ := h.nod i _ (List.getElem?_eq_getElem hi)
  have hs := h.sg
  unfold sigB at hs
  rw [Bool.and_eq_true] at hs
  have h2 := allR_get hs.2 (k := (g.nodes[i].1).toNat) (by omega)
  unfold ctB at h2
  simp only [Bool.and_eq_true] at h2
  have h3 := h2.1.1.2
  unfold inB at h3
  simp only [Bool.and_eq_true, decide_eq_true_eq] at h3
  unfold portsA at hp
  omega
 ·obtain ⟨i, hi, rfl⟩ := List.getElem_of_mem hx
  have hu := (h.nod i _ (List.getElem?_eq_getElem hi)).2.1
  have := h.r
  by_cases h0 : g.nodes[i].2.1 < 0
  ·have := hu.1 h0; omega
  omega
 have hu := h.sit p hp
 have := h.r
 by_cases h0 : p < 0
 ·have := hu.1 h0; omega
 omega
theorem inv_same_of {sig : List Ct} {g : Gr} (h : invB sig g = true) : invSG g = invI g := by
 unfold invB at h
 rw [Bool.and_eq_true, Bool.or_eq_true] at h
 exact inv_same ((good_iff sig g).1 h.1) h.2
theorem comp_good_of {sig : List Ct} {a b : Gr} (h : compR sig a b = true) : GoodP sig (compG a b) := by
 unfold compR at h
 rw [Bool.and_eq_true] at h
 exact (good_iff sig _).1 h.2
theorem lawFnInverses (A : Option Addr) (bs : List Int) (c : Nat) (w : World) (hA : Cells w A (u8s bs)) (hrng : ∀ x ∈ bs, 0 ≤ x ∧ x < 256) (hlen : bs.length ≤ maxLen) :
  Calls Tryz.prog 7 #[.slice A bs.length c] w fun e w' => e = .returned (.bool true) ∧ Below w.heap.size w w' := by
 have HB := Lib.hid (vBig_any A bs.length c w hlen)
 by_cases hbig : 65536 < bs.length
 ·rw [show decide (65536 < bs.length) = true from by simp [hbig]] at HB
  clear hbig hlen hA hrng
  go_enter Tryz.func7, Tryz.ntmps7
  go_wp2_with fail
  (with_reducible refine HB.out.mono ?_)
  rintro e w1 ⟨rfl, rfl⟩
  go_wp2_with fail
  go_ret
  exact ⟨rfl, Below.refl _ _⟩
 rw [show decide (65536 < bs.length) = false from by simp [hbig]] at HB
 have HD := Lib.hid (drawInverseOf_any A bs c w hA hrng (by omega))
 clear hbig hlen hA hrng
 go_enter Tryz.func7, Tryz.ntmps7
 go_wp2_with fail
 (with_reducible refine HB.out.mono ?_)
 rintro e w' ⟨rfl, rfl⟩
 go_wp2_with fail
 (with_reducible refine HD.out.mono ?_)
 rintro e v0 ⟨gv, nv, sv, ov, iv, sig, g, rfl, hD0, hb1⟩
 have hD := hD0 v0 (Kept.refl _ _)
 clear HB HD hD0
 have HSZ := Lib.hid hD.sz
 have HCP := Lib.hid hD.cap
 have SMB := Lib.hid hD.sm
 obtain ⟨ANB, cNB, ASB, cSB, AOB, cOB, AIB, cIB, rfl, rfl, rfl, rfl⟩ := hD.rg.form
 obtain ⟨AG, cG, rfl, _⟩ := hD.sg.form
 have HRB := Lib.hid hD.rg
 have HSG := Lib.hid hD.sg
 have HWB := Lib.hid hb1
 have HIB := Lib.hid (show invB sig g = (permR sig g || renR sig g) from by
  rw [renR_alt, permR_eq]
  unfold invB
  cases goodG sig g <;> rfl)
 clear hD hb1
 cases hi : invB sig g
 ·have hpm : permR sig g = false := by
   have h := HIB.out
   rw [hi] at h
   cases hq : permR sig g
   ·rfl
   rw [hq] at h; cases h
  obtain ⟨v1, hv, hb, -⟩ := laid1 v0 (.cells #[.int .i64 g.roots, .slice ANB g.nodes.length cNB, .slice ASB g.sites.length cSB, .int .i64 g.edges, .slice AOB g.outer.length cOB, .slice AIB g.inner.length cIB] 31)
  have HNv1 := Lib.hid hv
  have HBB := Lib.hid (show v1.heap[v0.heap.size]? = some (.cells #[.int .i64 g.roots, .slice ANB g.nodes.length cNB, .slice ASB g.sites.length cSB, .int .i64 g.edges, .slice AOB g.outer.length cOB, .slice AIB g.inner.length cIB] 31) from by rw [hv]; exact heap_alloc_new _ _)
  clear hv
  replace HWB := Lib.hid (HWB.out.trans (hb.mono HWB.out.size))
  replace HSG := Lib.hid (HSG.out.below RCt_keep hb)
  replace HRB := Lib.hid (HRB.out.below hb)
  clear hb
  have HI1 := Lib.hid hi
  clear hi
  obtain ⟨cB0, cB1, cB2, cB3, cB4, cB5⟩ := row6 HBB.out
  rw [HNv1.out] at cB0 cB1 cB2 cB3 cB4 cB5
  have hc := implInverseOf_any sig g _ _ _ _ _ v1 SMB.out HSZ.out HCP.out HSG.out HRB.out
  rw [HI1.out] at hc
  have HC := Lib.hid hc
  clear hc
  go_wp2_with fail
  rw [← HNv1.out]
  (with_reducible refine HC.out.mono ?_)
  rintro e v2 ⟨X, rfl, hXg, hr⟩
  clear HC cB0 cB1 cB2 cB3 cB4 cB5
  obtain ⟨gX, hg⟩ : ∃ g, g = X.g := ⟨_, rfl⟩
  have HEX := Lib.hid (show gX = zeroG from by rw [hg, hXg]; rfl)
  have SMX := Lib.hid (show SmallG gX from by rw [HEX.out]; exact zeroG_small)
  obtain ⟨xr, xe, xnv, xsv, xov, xiv, xns, xls, xss, xos, xis⟩ := X
  obtain ⟨ANX, cNX, ASX, cSX, AOX, cOX, AIX, cIX, e1, e2, e3, e4⟩ := hr.ob.form
  obtain rfl : xr = gX.roots := (congrArg Gr.roots hg).symm
  obtain rfl : xns = gX.nodes := (congrArg Gr.nodes hg).symm
  obtain rfl : xss = gX.sites := (congrArg Gr.sites hg).symm
  obtain rfl : xe = gX.edges := (congrArg Gr.edges hg).symm
  obtain rfl : xos = gX.outer := (congrArg Gr.outer hg).symm
  obtain rfl : xis = gX.inner := (congrArg Gr.inner hg).symm
  dsimp only at e1 e2 e3 e4
  subst e1 e2 e3 e4
  simp only [BX.cells]
  have hb := hr.bel
  have hrk := hr.ob.rgr (by rw [← hg]; exact SMX.out)
  have HRX := Lib.hid (show RGr v2 _ _ _ _ gX from hrk)
  replace HWB := Lib.hid (HWB.out.trans (hb.mono HWB.out.size))
  replace HSG := Lib.hid (HSG.out.below RCt_keep hb)
  replace HRB := Lib.hid (HRB.out.below hb)
  replace HBB := Lib.hid ((hb.block _ (Array.getElem?_eq_some_iff.1 HBB.out).1).trans HBB.out)
  clear hb hr hXg hg hrk
  obtain ⟨v3, hv, hb, -⟩ := laid1 v2 (.cells #[.int .i64 gX.roots, .slice ANX gX.nodes.length cNX, .slice ASX gX.sites.length cSX, .int .i64 gX.edges, .slice AOX gX.outer.length cOX, .slice AIX gX.inner.length cIX] 31)
  have HNv3 := Lib.hid hv
  have HBX := Lib.hid (show v3.heap[v2.heap.size]? = some (.cells #[.int .i64 gX.roots, .slice ANX gX.nodes.length cNX, .slice ASX gX.sites.length cSX, .int .i64 gX.edges, .slice AOX gX.outer.length cOX, .slice AIX gX.inner.length cIX] 31) from by rw [hv]; exact heap_alloc_new _ _)
  clear hv
  replace HWB := Lib.hid (HWB.out.trans (hb.mono HWB.out.size))
  replace HSG := Lib.hid (HSG.out.below RCt_keep hb)
  replace HRB := Lib.hid (HRB.out.below hb)
  replace HRX := Lib.hid (HRX.out.below hb)
  replace HBB := Lib.hid ((hb.block _ (Array.getElem?_eq_some_iff.1 HBB.out).1).trans HBB.out)
  clear hb
  obtain ⟨cB0, cB1, cB2, cB3, cB4, cB5⟩ := row6 HBB.out
  rw [HNv3.out] at cB0 cB1 cB2 cB3 cB4 cB5
  have hc := specInverseOf_any sig g _ _ _ _ _ v3 SMB.out HSZ.out HSG.out HRB.out
  rw [HI1.out] at hc
  have HC := Lib.hid hc
  clear hc
  go_wp2_with fail
  rw [← HNv3.out]
  (with_reducible refine HC.out.mono ?_)
  rintro e v4 ⟨X, rfl, hXg, hr⟩
  clear HC cB0 cB1 cB2 cB3 cB4 cB5
  obtain ⟨gY, hg⟩ : ∃ g, g = X.g := ⟨_, rfl⟩
  have HEY := Lib.hid (show gY = zeroG from by rw [hg, hXg]; rfl)
  have SMY := Lib.hid (show SmallG gY from by rw [HEY.out]; exact zeroG_small)
  obtain ⟨xr, xe, xnv, xsv, xov, xiv, xns, xls, xss, xos, xis⟩ := X
  obtain ⟨ANY, cNY, ASY, cSY, AOY, cOY, AIY, cIY, e1, e2, e3, e4⟩ := hr.ob.form
  obtain rfl : xr = gY.roots := (congrArg Gr.roots hg).symm
  obtain rfl : xns = gY.nodes := (congrArg Gr.nodes hg).symm
  obtain rfl : xss = gY.sites := (congrArg Gr.sites hg).symm
  obtain rfl : xe = gY.edges := (congrArg Gr.edges hg).symm
  obtain rfl : xos = gY.outer := (congrArg Gr.outer hg).symm
  obtain rfl : xis = gY.inner := (congrArg Gr.inner hg).symm
  dsimp only at e1 e2 e3 e4
  subst e1 e2 e3 e4
  simp only [BX.cells]
  have hb := hr.bel
  have hrk := hr.ob.rgr (by rw [← hg]; exact SMY.out)
  have HRY := Lib.hid (show RGr v4 _ _ _ _ gY from hrk)
  replace HWB := Lib.hid (HWB.out.trans (hb.mono HWB.out.size))
  replace HSG := Lib.hid (HSG.out.below RCt_keep hb)
  replace HRB := Lib.hid (HRB.out.below hb)
  replace HRX := Lib.hid (HRX.out.below hb)
  replace HBB := Lib.hid ((hb.block _ (Array.getElem?_eq_some_iff.1 HBB.out).1).trans HBB.out)
  replace HBX := Lib.hid ((hb.block _ (Array.getElem?_eq_some_iff.1 HBX.out).1).trans HBX.out)
  clear hb hr hXg hg hrk
  obtain ⟨v5, hv, hb, -⟩ := laid1 v4 (.cells #[.int .i64 gY.roots, .slice ANY gY.nodes.length cNY, .slice ASY gY.sites.length cSY, .int .i64 gY.edges, .slice AOY gY.outer.length cOY, .slice AIY gY.inner.length cIY] 31)
  have HNv5 := Lib.hid hv
  have HBY := Lib.hid (show v5.heap[v4.heap.size]? = some (.cells #[.int .i64 gY.roots, .slice ANY gY.nodes.length cNY, .slice ASY gY.sites.length cSY, .int .i64 gY.edges, .slice AOY gY.outer.length cOY, .slice AIY gY.inner.length cIY] 31) from by rw [hv]; exact heap_alloc_new _ _)
  clear hv
  replace HWB := Lib.hid (HWB.out.trans (hb.mono HWB.out.size))
  replace HSG := Lib.hid (HSG.out.below RCt_keep hb)
  replace HRB := Lib.hid (HRB.out.below hb)
  replace HRX := Lib.hid (HRX.out.below hb)
  replace HRY := Lib.hid (HRY.out.below hb)
  replace HBB := Lib.hid ((hb.block _ (Array.getElem?_eq_some_iff.1 HBB.out).1).trans HBB.out)
  replace HBX := Lib.hid ((hb.block _ (Array.getElem?_eq_some_iff.1 HBX.out).1).trans HBX.out)
  clear hb
  have HXY := Lib.hid (show gX = gY from by rw [HEX.out, HEY.out])
  have q0 : (false != false) = false := rfl
  obtain ⟨cX0, cX1, cX2, cX3, cX4, cX5⟩ := row6 HBX.out
  obtain ⟨cY0, cY1, cY2, cY3, cY4, cY5⟩ := row6 HBY.out
  rw [HNv5.out] at cX0 cX1 cX2 cX3 cX4 cX5 cY0 cY1 cY2 cY3 cY4 cY5
  have hc := (show Calls Tryz.prog 26 #[.agg #[.int .i64 gX.roots, .slice ANX gX.nodes.length cNX, .slice ASX gX.sites.length cSX, .int .i64 gX.edges, .slice AOX gX.outer.length cOX, .slice AIX gX.inner.length cIX], .agg #[.int .i64 gY.roots, .slice ANY gY.nodes.length cNY, .slice ASY gY.sites.length cSY, .int .i64 gY.edges, .slice AOY gY.outer.length cOY, .slice AIY gY.inner.length cIY]] v5 (fun e w' => e = .returned (.bool true) ∧ Below v5.heap.size v5 w') from by
   have h1 := HRX.out
   have h2 := HRY.out
   have h3 := SMX.out
   have h := HXY.out
   subst h
   exact vGraph_same gX _ _ _ _ _ _ _ _ v5 h3 h1 h2)
  have HC := Lib.hid hc
  clear hc
  go_wp2_with fail
  rw [← HNv5.out]
  (with_reducible refine HC.out.mono ?_)
  rintro e v6 ⟨rfl, hb⟩
  clear HC cX0 cX1 cX2 cX3 cX4 cX5 cY0 cY1 cY2 cY3 cY4 cY5
  replace HWB := Lib.hid (HWB.out.trans (hb.mono HWB.out.size))
  replace HSG := Lib.hid (HSG.out.below RCt_keep hb)
  replace HRB := Lib.hid (HRB.out.below hb)
  replace HRX := Lib.hid (HRX.out.below hb)
  replace HRY := Lib.hid (HRY.out.below hb)
  replace HBB := Lib.hid ((hb.block _ (Array.getElem?_eq_some_iff.1 HBB.out).1).trans HBB.out)
  replace HBX := Lib.hid ((hb.block _ (Array.getElem?_eq_some_iff.1 HBX.out).1).trans HBX.out)
  replace HBY := Lib.hid ((hb.block _ (Array.getElem?_eq_some_iff.1 HBY.out).1).trans HBY.out)
  clear hb
  have HPM := Lib.hid (show permR sig g = false from hpm)
  clear hpm
  obtain ⟨cB0, cB1, cB2, cB3, cB4, cB5⟩ := row6 HBB.out
  have hc := implIsPermutation_any sig g _ _ _ _ _ v6 SMB.out HSZ.out HCP.out HSG.out HRB.out
  rw [HPM.out] at hc
  have HC := Lib.hid hc
  clear hc
  go_wp2_with fail
  (with_reducible refine HC.out.mono ?_)
  rintro e v7 ⟨rfl, hb⟩
  clear HC cB0 cB1 cB2 cB3 cB4 cB5
  replace HWB := Lib.hid (HWB.out.trans (hb.mono HWB.out.size))
  replace HSG := Lib.hid (HSG.out.below RCt_keep hb)
  replace HRB := Lib.hid (HRB.out.below hb)
  replace HRX := Lib.hid (HRX.out.below hb)
  replace HRY := Lib.hid (HRY.out.below hb)
  replace HBB := Lib.hid ((hb.block _ (Array.getElem?_eq_some_iff.1 HBB.out).1).trans HBB.out)
  replace HBX := Lib.hid ((hb.block _ (Array.getElem?_eq_some_iff.1 HBX.out).1).trans HBX.out)
  replace HBY := Lib.hid ((hb.block _ (Array.getElem?_eq_some_iff.1 HBY.out).1).trans HBY.out)
  clear hb
  have HRN := Lib.hid (show renR sig g = false from by have h := HIB.out; rw [HI1.out, HPM.out] at h; exact h.symm)
  obtain ⟨cB0, cB1, cB2, cB3, cB4, cB5⟩ := row6 HBB.out
  have hc := implIsRenaming_any sig g _ _ _ _ _ v7 SMB.out HSZ.out HCP.out HSG.out HRB.out
  rw [HRN.out] at hc
  have HC := Lib.hid hc
  clear hc
  go_wp2_with fail
  (with_reducible refine HC.out.mono ?_)
  rintro e v8 ⟨rfl, hb⟩
  clear HC cB0 cB1 cB2 cB3 cB4 cB5
  replace HWB := Lib.hid (HWB.out.trans (hb.mono HWB.out.size))
  replace HSG := Lib.hid (HSG.out.below RCt_keep hb)
  replace HRB := Lib.hid (HRB.out.below hb)
  replace HRX := Lib.hid (HRX.out.below hb)
  replace HRY := Lib.hid (HRY.out.below hb)
  replace HBB := Lib.hid ((hb.block _ (Array.getElem?_eq_some_iff.1 HBB.out).1).trans HBB.out)
  replace HBX := Lib.hid ((hb.block _ (Array.getElem?_eq_some_iff.1 HBX.out).1).trans HBX.out)
  replace HBY := Lib.hid ((hb.block _ (Array.getElem?_eq_some_iff.1 HBY.out).1).trans HBY.out)
  clear hb
  go_wp2_with fail
  go_ret
  exact ⟨rfl, HWB.out⟩
 obtain ⟨v1, hv⟩ : ∃ v1, v1 = v0.alloc (.cells #[.int .i64 g.roots, .slice ANB g.nodes.length cNB, .slice ASB g.sites.length cSB, .int .i64 g.edges, .slice AOB g.outer.length cOB, .slice AIB g.inner.length cIB] 31) := ⟨_, rfl⟩
 have hb : Below v0.heap.size v0 v1 := by rw [hv]; exact (Below.refl _ _).alloc (Nat.le_refl _) _
 have HNv1 := Lib.hid hv
 have HBB := Lib.hid (show v1.heap[v0.heap.size]? = some (.cells #[.int .i64 g.roots, .slice ANB g.nodes.length cNB, .slice ASB g.sites.length cSB, .int .i64 g.edges, .slice AOB g.outer.length cOB, .slice AIB g.inner.length cIB] 31) from by rw [hv]; exact heap_alloc_new _ _)
 clear hv
 replace HWB := Lib.hid (HWB.out.trans (hb.mono HWB.out.size))
 replace HSG := Lib.hid (HSG.out.below RCt_keep hb)
 replace HRB := Lib.hid (HRB.out.below hb)
 clear hb
 have HI1 := Lib.hid hi
 clear hi
 have HL := Lib.hid (inv_law (sig := sig) (g := g) HI1.out)
 obtain ⟨cB0, cB1, cB2, cB3, cB4, cB5⟩ := row6 HBB.out
 rw [HNv1.out] at cB0 cB1 cB2 cB3 cB4 cB5
 have hc := implInverseOf_any sig g _ _ _ _ _ v1 SMB.out HSZ.out HCP.out HSG.out HRB.out
 rw [HI1.out] at hc
 have HC := Lib.hid hc
 clear hc
 go_wp2_with fail
 rw [← HNv1.out]
 (with_reducible refine HC.out.mono ?_)
 rintro e v2 ⟨X, rfl, hXg, hr⟩
 clear HC cB0 cB1 cB2 cB3 cB4 cB5
 obtain ⟨gX, hg⟩ : ∃ g, g = X.g := ⟨_, rfl⟩
 have HEX := Lib.hid (show gX = invI g from by rw [hg, hXg]; rfl)
 have SMX := Lib.hid (show SmallG gX from by rw [HEX.out]; exact good_small HL.out.gi)
 obtain ⟨xr, xe, xnv, xsv, xov, xiv, xns, xls, xss, xos, xis⟩ := X
 obtain ⟨ANX, cNX, ASX, cSX, AOX, cOX, AIX, cIX, e1, e2, e3, e4⟩ := hr.ob.form
 obtain rfl : xr = gX.roots := (congrArg Gr.roots hg).symm
 obtain rfl : xns = gX.nodes := (congrArg Gr.nodes hg).symm
 obtain rfl : xss = gX.sites := (congrArg Gr.sites hg).symm
 obtain rfl : xe = gX.edges := (congrArg Gr.edges hg).symm
 obtain rfl : xos = gX.outer := (congrArg Gr.outer hg).symm
 obtain rfl : xis = gX.inner := (congrArg Gr.inner hg).symm
 dsimp only at e1 e2 e3 e4
 subst e1 e2 e3 e4
 simp only [BX.cells]
 have hb := hr.bel
 have hrk := hr.ob.rgr (by rw [← hg]; exact SMX.out)
 have HRX := Lib.hid (show RGr v2 _ _ _ _ gX from hrk)
 replace HWB := Lib.hid (HWB.out.trans (hb.mono HWB.out.size))
 replace HSG := Lib.hid (HSG.out.below RCt_keep hb)
 replace HRB := Lib.hid (HRB.out.below hb)
 replace HBB := Lib.hid ((hb.block _ (Array.getElem?_eq_some_iff.1 HBB.out).1).trans HBB.out)
 clear hb hr hXg hg hrk
 obtain ⟨v3, hv, hb, -⟩ := laid1 v2 (.cells #[.int .i64 gX.roots, .slice ANX gX.nodes.length cNX, .slice ASX gX.sites.length cSX, .int .i64 gX.edges, .slice AOX gX.outer.length cOX, .slice AIX gX.inner.length cIX] 31)
 have HNv3 := Lib.hid hv
 have HBX := Lib.hid (show v3.heap[v2.heap.size]? = some (.cells #[.int .i64 gX.roots, .slice ANX gX.nodes.length cNX, .slice ASX gX.sites.length cSX, .int .i64 gX.edges, .slice AOX gX.outer.length cOX, .slice AIX gX.inner.length cIX] 31) from by rw [hv]; exact heap_alloc_new _ _)
 clear hv
 replace HWB := Lib.hid (HWB.out.trans (hb.mono HWB.out.size))
 replace HSG := Lib.hid (HSG.out.below RCt_keep hb)
 replace HRB := Lib.hid (HRB.out.below hb)
 replace HRX := Lib.hid (HRX.out.below hb)
 replace HBB := Lib.hid ((hb.block _ (Array.getElem?_eq_some_iff.1 HBB.out).1).trans HBB.out)
 clear hb
 obtain ⟨cB0, cB1, cB2, cB3, cB4, cB5⟩ := row6 HBB.out
 rw [HNv3.out] at cB0 cB1 cB2 cB3 cB4 cB5
 have hc := specInverseOf_any sig g _ _ _ _ _ v3 SMB.out HSZ.out HSG.out HRB.out
 rw [HI1.out] at hc
 have HC := Lib.hid hc
 clear hc
 go_wp2_with fail
 rw [← HNv3.out]
 (with_reducible refine HC.out.mono ?_)
 rintro e v4 ⟨X, rfl, hXg, hr⟩
 clear HC cB0 cB1 cB2 cB3 cB4 cB5
 obtain ⟨gY, hg⟩ : ∃ g, g = X.g := ⟨_, rfl⟩
 have HEY := Lib.hid (show gY = invI g from by rw [hg, hXg]; exact inv_same_of HI1.out)
 have SMY := Lib.hid (show SmallG gY from by rw [HEY.out]; exact good_small HL.out.gi)
 obtain ⟨xr, xe, xnv, xsv, xov, xiv, xns, xls, xss, xos, xis⟩ := X
 obtain ⟨ANY, cNY, ASY, cSY, AOY, cOY, AIY, cIY, e1, e2, e3, e4⟩ := hr.ob.form
 obtain rfl : xr = gY.roots := (congrArg Gr.roots hg).symm
 obtain rfl : xns = gY.nodes := (congrArg Gr.nodes hg).symm
 obtain rfl : xss = gY.sites := (congrArg Gr.sites hg).symm
 obtain rfl : xe = gY.edges := (congrArg Gr.edges hg).symm
 obtain rfl : xos = gY.outer := (congrArg Gr.outer hg).symm
 obtain rfl : xis = gY.inner := (congrArg Gr.inner hg).symm
 dsimp only at e1 e2 e3 e4
 subst e1 e2 e3 e4
 simp only [BX.cells]
 have hb := hr.bel
 have hrk := hr.ob.rgr (by rw [← hg]; exact SMY.out)
 have HRY := Lib.hid (show RGr v4 _ _ _ _ gY from hrk)
 replace HWB := Lib.hid (HWB.out.trans (hb.mono HWB.out.size))
 replace HSG := Lib.hid (HSG.out.below RCt_keep hb)
 replace HRB := Lib.hid (HRB.out.below hb)
 replace HRX := Lib.hid (HRX.out.below hb)
 replace HBB := Lib.hid ((hb.block _ (Array.getElem?_eq_some_iff.1 HBB.out).1).trans HBB.out)
 replace HBX := Lib.hid ((hb.block _ (Array.getElem?_eq_some_iff.1 HBX.out).1).trans HBX.out)
 clear hb hr hXg hg hrk
 obtain ⟨v5, hv, hb, -⟩ := laid1 v4 (.cells #[.int .i64 gY.roots, .slice ANY gY.nodes.length cNY, .slice ASY gY.sites.length cSY, .int .i64 gY.edges, .slice AOY gY.outer.length cOY, .slice AIY gY.inner.length cIY] 31)
 have HNv5 := Lib.hid hv
 have HBY := Lib.hid (show v5.heap[v4.heap.size]? = some (.cells #[.int .i64 gY.roots, .slice ANY gY.nodes.length cNY, .slice ASY gY.sites.length cSY, .int .i64 gY.edges, .slice AOY gY.outer.length cOY, .slice AIY gY.inner.length cIY] 31) from by rw [hv]; exact heap_alloc_new _ _)
 clear hv
 replace HWB := Lib.hid (HWB.out.trans (hb.mono HWB.out.size))
 replace HSG := Lib.hid (HSG.out.below RCt_keep hb)
 replace HRB := Lib.hid (HRB.out.below hb)
 replace HRX := Lib.hid (HRX.out.below hb)
 replace HRY := Lib.hid (HRY.out.below hb)
 replace HBB := Lib.hid ((hb.block _ (Array.getElem?_eq_some_iff.1 HBB.out).1).trans HBB.out)
 replace HBX := Lib.hid ((hb.block _ (Array.getElem?_eq_some_iff.1 HBX.out).1).trans HBX.out)
 clear hb
 have HXY := Lib.hid (show gX = gY from by rw [HEX.out, HEY.out])
 have q0 : (true != true) = false := rfl
 obtain ⟨cX0, cX1, cX2, cX3, cX4, cX5⟩ := row6 HBX.out
 obtain ⟨cY0, cY1, cY2, cY3, cY4, cY5⟩ := row6 HBY.out
 rw [HNv5.out] at cX0 cX1 cX2 cX3 cX4 cX5 cY0 cY1 cY2 cY3 cY4 cY5
 have hc := (show Calls Tryz.prog 26 #[.agg #[.int .i64 gX.roots, .slice ANX gX.nodes.length cNX, .slice ASX gX.sites.length cSX, .int .i64 gX.edges, .slice AOX gX.outer.length cOX, .slice AIX gX.inner.length cIX], .agg #[.int .i64 gY.roots, .slice ANY gY.nodes.length cNY, .slice ASY gY.sites.length cSY, .int .i64 gY.edges, .slice AOY gY.outer.length cOY, .slice AIY gY.inner.length cIY]] v5 (fun e w' => e = .returned (.bool true) ∧ Below v5.heap.size v5 w') from by
  have h1 := HRX.out
  have h2 := HRY.out
  have h3 := SMX.out
  have h := HXY.out
  subst h
  exact vGraph_same gX _ _ _ _ _ _ _ _ v5 h3 h1 h2)
 have HC := Lib.hid hc
 clear hc
 go_wp2_with fail
 rw [← HNv5.out]
 (with_reducible refine HC.out.mono ?_)
 rintro e v6 ⟨rfl, hb⟩
 clear HC cX0 cX1 cX2 cX3 cX4 cX5 cY0 cY1 cY2 cY3 cY4 cY5
 replace HWB := Lib.hid (HWB.out.trans (hb.mono HWB.out.size))
 replace HSG := Lib.hid (HSG.out.below RCt_keep hb)
 replace HRB := Lib.hid (HRB.out.below hb)
 replace HRX := Lib.hid (HRX.out.below hb)
 replace HRY := Lib.hid (HRY.out.below hb)
 replace HBB := Lib.hid ((hb.block _ (Array.getElem?_eq_some_iff.1 HBB.out).1).trans HBB.out)
 replace HBX := Lib.hid ((hb.block _ (Array.getElem?_eq_some_iff.1 HBX.out).1).trans HBX.out)
 replace HBY := Lib.hid ((hb.block _ (Array.getElem?_eq_some_iff.1 HBY.out).1).trans HBY.out)
 clear hb
 cases hpm : permR sig g
 case' false =>
  have HPM := Lib.hid hpm
  clear hpm
  obtain ⟨cB0, cB1, cB2, cB3, cB4, cB5⟩ := row6 HBB.out
  have hc := implIsPermutation_any sig g _ _ _ _ _ v6 SMB.out HSZ.out HCP.out HSG.out HRB.out
  rw [HPM.out] at hc
  have HC := Lib.hid hc
  clear hc
  go_wp2_with fail
  (with_reducible refine HC.out.mono ?_)
  rintro e v7 ⟨rfl, hb⟩
  clear HC cB0 cB1 cB2 cB3 cB4 cB5
  replace HWB := Lib.hid (HWB.out.trans (hb.mono HWB.out.size))
  replace HSG := Lib.hid (HSG.out.below RCt_keep hb)
  replace HRB := Lib.hid (HRB.out.below hb)
  replace HRX := Lib.hid (HRX.out.below hb)
  replace HRY := Lib.hid (HRY.out.below hb)
  replace HBB := Lib.hid ((hb.block _ (Array.getElem?_eq_some_iff.1 HBB.out).1).trans HBB.out)
  replace HBX := Lib.hid ((hb.block _ (Array.getElem?_eq_some_iff.1 HBX.out).1).trans HBX.out)
  replace HBY := Lib.hid ((hb.block _ (Array.getElem?_eq_some_iff.1 HBY.out).1).trans HBY.out)
  clear hb
  have HRN := Lib.hid (show renR sig g = true from by have h := HIB.out; rw [HI1.out, HPM.out] at h; exact h.symm)
  obtain ⟨cB0, cB1, cB2, cB3, cB4, cB5⟩ := row6 HBB.out
  have hc := implIsRenaming_any sig g _ _ _ _ _ v7 SMB.out HSZ.out HCP.out HSG.out HRB.out
  rw [HRN.out] at hc
  have HC := Lib.hid hc
  clear hc
  go_wp2_with fail
  (with_reducible refine HC.out.mono ?_)
  rintro e v8 ⟨rfl, hb⟩
  clear HC cB0 cB1 cB2 cB3 cB4 cB5
  replace HWB := Lib.hid (HWB.out.trans (hb.mono HWB.out.size))
  replace HSG := Lib.hid (HSG.out.below RCt_keep hb)
  replace HRB := Lib.hid (HRB.out.below hb)
  replace HRX := Lib.hid (HRX.out.below hb)
  replace HRY := Lib.hid (HRY.out.below hb)
  replace HBB := Lib.hid ((hb.block _ (Array.getElem?_eq_some_iff.1 HBB.out).1).trans HBB.out)
  replace HBX := Lib.hid ((hb.block _ (Array.getElem?_eq_some_iff.1 HBX.out).1).trans HBX.out)
  replace HBY := Lib.hid ((hb.block _ (Array.getElem?_eq_some_iff.1 HBY.out).1).trans HBY.out)
  clear hb HRN
  clear HPM
  obtain ⟨vT, hvT⟩ : ∃ vT, vT = v8 := ⟨_, rfl⟩
  subst hvT
 case' true =>
  have HPM := Lib.hid hpm
  clear hpm
  obtain ⟨cB0, cB1, cB2, cB3, cB4, cB5⟩ := row6 HBB.out
  have hc := implIsPermutation_any sig g _ _ _ _ _ v6 SMB.out HSZ.out HCP.out HSG.out HRB.out
  rw [HPM.out] at hc
  have HC := Lib.hid hc
  clear hc
  go_wp2_with fail
  (with_reducible refine HC.out.mono ?_)
  rintro e v9 ⟨rfl, hb⟩
  clear HC cB0 cB1 cB2 cB3 cB4 cB5
  replace HWB := Lib.hid (HWB.out.trans (hb.mono HWB.out.size))
  replace HSG := Lib.hid (HSG.out.below RCt_keep hb)
  replace HRB := Lib.hid (HRB.out.below hb)
  replace HRX := Lib.hid (HRX.out.below hb)
  replace HRY := Lib.hid (HRY.out.below hb)
  replace HBB := Lib.hid ((hb.block _ (Array.getElem?_eq_some_iff.1 HBB.out).1).trans HBB.out)
  replace HBX := Lib.hid ((hb.block _ (Array.getElem?_eq_some_iff.1 HBX.out).1).trans HBX.out)
  replace HBY := Lib.hid ((hb.block _ (Array.getElem?_eq_some_iff.1 HBY.out).1).trans HBY.out)
  clear hb HPM
  obtain ⟨vT, hvT⟩ : ∃ vT, vT = v9 := ⟨_, rfl⟩
  subst hvT
 all_goals
  have HCX := Lib.hid (show compR sig gX g = true from by rw [HEX.out]; exact HL.out.c1)
  have HCY := Lib.hid (show compR sig g gX = true from by rw [HEX.out]; exact HL.out.c2)
  obtain ⟨cX0, cX1, cX2, cX3, cX4, cX5⟩ := row6 HBX.out
  obtain ⟨cB0, cB1, cB2, cB3, cB4, cB5⟩ := row6 HBB.out
  have hc := implComposeBigraphs_any sig gX g _ _ _ _ _ _ _ _ _ vT SMX.out SMB.out HSZ.out HCP.out HSG.out HRX.out HRB.out
  rw [HCX.out] at hc
  have HC := Lib.hid hc
  clear hc
  go_wp2_with fail
  (with_reducible refine HC.out.mono ?_)
  rintro e v10 ⟨X, rfl, hXg, hr⟩
  clear HC cX0 cX1 cX2 cX3 cX4 cX5 cB0 cB1 cB2 cB3 cB4 cB5
  obtain ⟨gP, hg⟩ : ∃ g, g = X.g := ⟨_, rfl⟩
  have HEP := Lib.hid (show gP = compG gX g from by rw [hg, hXg]; rfl)
  have SMP := Lib.hid (show SmallG gP from by rw [HEP.out]; exact good_small (comp_good_of HCX.out))
  obtain ⟨xr, xe, xnv, xsv, xov, xiv, xns, xls, xss, xos, xis⟩ := X
  obtain ⟨ANP, cNP, ASP, cSP, AOP, cOP, AIP, cIP, e1, e2, e3, e4⟩ := hr.ob.form
  obtain rfl : xr = gP.roots := (congrArg Gr.roots hg).symm
  obtain rfl : xns = gP.nodes := (congrArg Gr.nodes hg).symm
  obtain rfl : xss = gP.sites := (congrArg Gr.sites hg).symm
  obtain rfl : xe = gP.edges := (congrArg Gr.edges hg).symm
  obtain rfl : xos = gP.outer := (congrArg Gr.outer hg).symm
  obtain rfl : xis = gP.inner := (congrArg Gr.inner hg).symm
  dsimp only at e1 e2 e3 e4
  subst e1 e2 e3 e4
  simp only [BX.cells]
  have hb := hr.bel
  have hrk := hr.ob.rgr (by rw [← hg]; exact SMP.out)
  have HRP := Lib.hid (show RGr v10 _ _ _ _ gP from hrk)
  replace HWB := Lib.hid (HWB.out.trans (hb.mono HWB.out.size))
  replace HSG := Lib.hid (HSG.out.below RCt_keep hb)
  replace HRB := Lib.hid (HRB.out.below hb)
  replace HRX := Lib.hid (HRX.out.below hb)
  replace HRY := Lib.hid (HRY.out.below hb)
  replace HBB := Lib.hid ((hb.block _ (Array.getElem?_eq_some_iff.1 HBB.out).1).trans HBB.out)
  replace HBX := Lib.hid ((hb.block _ (Array.getElem?_eq_some_iff.1 HBX.out).1).trans HBX.out)
  replace HBY := Lib.hid ((hb.block _ (Array.getElem?_eq_some_iff.1 HBY.out).1).trans HBY.out)
  clear hb hr hXg hg hrk
  obtain ⟨v11, hv, hb, -⟩ := laid1 v10 (.cells #[.int .i64 gP.roots, .slice ANP gP.nodes.length cNP, .slice ASP gP.sites.length cSP, .int .i64 gP.edges, .slice AOP gP.outer.length cOP, .slice AIP gP.inner.length cIP] 31)
  have HNv11 := Lib.hid hv
  have HBP := Lib.hid (show v11.heap[v10.heap.size]? = some (.cells #[.int .i64 gP.roots, .slice ANP gP.nodes.length cNP, .slice ASP gP.sites.length cSP, .int .i64 gP.edges, .slice AOP gP.outer.length cOP, .slice AIP gP.inner.length cIP] 31) from by rw [hv]; exact heap_alloc_new _ _)
  clear hv
  replace HWB := Lib.hid (HWB.out.trans (hb.mono HWB.out.size))
  replace HSG := Lib.hid (HSG.out.below RCt_keep hb)
  replace HRB := Lib.hid (HRB.out.below hb)
  replace HRX := Lib.hid (HRX.out.below hb)
  replace HRY := Lib.hid (HRY.out.below hb)
  replace HRP := Lib.hid (HRP.out.below hb)
  replace HBB := Lib.hid ((hb.block _ (Array.getElem?_eq_some_iff.1 HBB.out).1).trans HBB.out)
  replace HBX := Lib.hid ((hb.block _ (Array.getElem?_eq_some_iff.1 HBX.out).1).trans HBX.out)
  replace HBY := Lib.hid ((hb.block _ (Array.getElem?_eq_some_iff.1 HBY.out).1).trans HBY.out)
  clear hb
  obtain ⟨cB0, cB1, cB2, cB3, cB4, cB5⟩ := row6 HBB.out
  obtain ⟨cX0, cX1, cX2, cX3, cX4, cX5⟩ := row6 HBX.out
  rw [HNv11.out] at cB0 cB1 cB2 cB3 cB4 cB5 cX0 cX1 cX2 cX3 cX4 cX5
  have hc := implComposeBigraphs_any sig g gX _ _ _ _ _ _ _ _ _ v11 SMB.out SMX.out HSZ.out HCP.out HSG.out HRB.out HRX.out
  rw [HCY.out] at hc
  have HC := Lib.hid hc
  clear hc
  go_wp2_with fail
  rw [← HNv11.out]
  (with_reducible refine HC.out.mono ?_)
  rintro e v12 ⟨X, rfl, hXg, hr⟩
  clear HC cB0 cB1 cB2 cB3 cB4 cB5 cX0 cX1 cX2 cX3 cX4 cX5
  obtain ⟨gQ, hg⟩ : ∃ g, g = X.g := ⟨_, rfl⟩
  have HEQ := Lib.hid (show gQ = compG g gX from by rw [hg, hXg]; rfl)
  have SMQ := Lib.hid (show SmallG gQ from by rw [HEQ.out]; exact good_small (comp_good_of HCY.out))
  obtain ⟨xr, xe, xnv, xsv, xov, xiv, xns, xls, xss, xos, xis⟩ := X
  obtain ⟨ANQ, cNQ, ASQ, cSQ, AOQ, cOQ, AIQ, cIQ, e1, e2, e3, e4⟩ := hr.ob.form
  obtain rfl : xr = gQ.roots := (congrArg Gr.roots hg).symm
  obtain rfl : xns = gQ.nodes := (congrArg Gr.nodes hg).symm
  obtain rfl : xss = gQ.sites := (congrArg Gr.sites hg).symm
  obtain rfl : xe = gQ.edges := (congrArg Gr.edges hg).symm
  obtain rfl : xos = gQ.outer := (congrArg Gr.outer hg).symm
  obtain rfl : xis = gQ.inner := (congrArg Gr.inner hg).symm
  dsimp only at e1 e2 e3 e4
  subst e1 e2 e3 e4
  simp only [BX.cells]
  have hb := hr.bel
  have hrk := hr.ob.rgr (by rw [← hg]; exact SMQ.out)
  have HRQ := Lib.hid (show RGr v12 _ _ _ _ gQ from hrk)
  replace HWB := Lib.hid (HWB.out.trans (hb.mono HWB.out.size))
  replace HSG := Lib.hid (HSG.out.below RCt_keep hb)
  replace HRB := Lib.hid (HRB.out.below hb)
  replace HRX := Lib.hid (HRX.out.below hb)
  replace HRY := Lib.hid (HRY.out.below hb)
  replace HRP := Lib.hid (HRP.out.below hb)
  replace HBB := Lib.hid ((hb.block _ (Array.getElem?_eq_some_iff.1 HBB.out).1).trans HBB.out)
  replace HBX := Lib.hid ((hb.block _ (Array.getElem?_eq_some_iff.1 HBX.out).1).trans HBX.out)
  replace HBY := Lib.hid ((hb.block _ (Array.getElem?_eq_some_iff.1 HBY.out).1).trans HBY.out)
  replace HBP := Lib.hid ((hb.block _ (Array.getElem?_eq_some_iff.1 HBP.out).1).trans HBP.out)
  clear hb hr hXg hg hrk
  obtain ⟨v13, hv, hb, -⟩ := laid1 v12 (.cells #[.int .i64 gQ.roots, .slice ANQ gQ.nodes.length cNQ, .slice ASQ gQ.sites.length cSQ, .int .i64 gQ.edges, .slice AOQ gQ.outer.length cOQ, .slice AIQ gQ.inner.length cIQ] 31)
  have HNv13 := Lib.hid hv
  have HBQ := Lib.hid (show v13.heap[v12.heap.size]? = some (.cells #[.int .i64 gQ.roots, .slice ANQ gQ.nodes.length cNQ, .slice ASQ gQ.sites.length cSQ, .int .i64 gQ.edges, .slice AOQ gQ.outer.length cOQ, .slice AIQ gQ.inner.length cIQ] 31) from by rw [hv]; exact heap_alloc_new _ _)
  clear hv
  replace HWB := Lib.hid (HWB.out.trans (hb.mono HWB.out.size))
  replace HSG := Lib.hid (HSG.out.below RCt_keep hb)
  replace HRB := Lib.hid (HRB.out.below hb)
  replace HRX := Lib.hid (HRX.out.below hb)
  replace HRY := Lib.hid (HRY.out.below hb)
  replace HRP := Lib.hid (HRP.out.below hb)
  replace HRQ := Lib.hid (HRQ.out.below hb)
  replace HBB := Lib.hid ((hb.block _ (Array.getElem?_eq_some_iff.1 HBB.out).1).trans HBB.out)
  replace HBX := Lib.hid ((hb.block _ (Array.getElem?_eq_some_iff.1 HBX.out).1).trans HBX.out)
  replace HBY := Lib.hid ((hb.block _ (Array.getElem?_eq_some_iff.1 HBY.out).1).trans HBY.out)
  replace HBP := Lib.hid ((hb.block _ (Array.getElem?_eq_some_iff.1 HBP.out).1).trans HBP.out)
  clear hb
  have HIX := Lib.hid (show invB sig gX = true from by rw [HEX.out]; exact HL.out.b)
  obtain ⟨cX0, cX1, cX2, cX3, cX4, cX5⟩ := row6 HBX.out
  rw [HNv13.out] at cX0 cX1 cX2 cX3 cX4 cX5
  have hc := implInverseOf_any sig gX _ _ _ _ _ v13 SMX.out HSZ.out HCP.out HSG.out HRX.out
  rw [HIX.out] at hc
  have HC := Lib.hid hc
  clear hc
  go_wp2_with fail
  rw [← HNv13.out]
  (with_reducible refine HC.out.mono ?_)
  rintro e v14 ⟨X, rfl, hXg, hr⟩
  clear HC cX0 cX1 cX2 cX3 cX4 cX5
  obtain ⟨gV, hg⟩ : ∃ g, g = X.g := ⟨_, rfl⟩
  have HEV := Lib.hid (show gV = g from by rw [hg, hXg]; show invI gX = g; rw [HEX.out]; exact HL.out.back)
  have SMV := Lib.hid (show SmallG gV from by rw [HEV.out]; exact SMB.out)
  obtain ⟨xr, xe, xnv, xsv, xov, xiv, xns, xls, xss, xos, xis⟩ := X
  obtain ⟨ANV, cNV, ASV, cSV, AOV, cOV, AIV, cIV, e1, e2, e3, e4⟩ := hr.ob.form
  obtain rfl : xr = gV.roots := (congrArg Gr.roots hg).symm
  obtain rfl : xns = gV.nodes := (congrArg Gr.nodes hg).symm
  obtain rfl : xss = gV.sites := (congrArg Gr.sites hg).symm
  obtain rfl : xe = gV.edges := (congrArg Gr.edges hg).symm
  obtain rfl : xos = gV.outer := (congrArg Gr.outer hg).symm
  obtain rfl : xis = gV.inner := (congrArg Gr.inner hg).symm
  dsimp only at e1 e2 e3 e4
  subst e1 e2 e3 e4
  simp only [BX.cells]
  have hb := hr.bel
  have hrk := hr.ob.rgr (by rw [← hg]; exact SMV.out)
  have HRV := Lib.hid (show RGr v14 _ _ _ _ gV from hrk)
  replace HWB := Lib.hid (HWB.out.trans (hb.mono HWB.out.size))
  replace HSG := Lib.hid (HSG.out.below RCt_keep hb)
  replace HRB := Lib.hid (HRB.out.below hb)
  replace HRX := Lib.hid (HRX.out.below hb)
  replace HRY := Lib.hid (HRY.out.below hb)
  replace HRP := Lib.hid (HRP.out.below hb)
  replace HRQ := Lib.hid (HRQ.out.below hb)
  replace HBB := Lib.hid ((hb.block _ (Array.getElem?_eq_some_iff.1 HBB.out).1).trans HBB.out)
  replace HBX := Lib.hid ((hb.block _ (Array.getElem?_eq_some_iff.1 HBX.out).1).trans HBX.out)
  replace HBY := Lib.hid ((hb.block _ (Array.getElem?_eq_some_iff.1 HBY.out).1).trans HBY.out)
  replace HBP := Lib.hid ((hb.block _ (Array.getElem?_eq_some_iff.1 HBP.out).1).trans HBP.out)
  replace HBQ := Lib.hid ((hb.block _ (Array.getElem?_eq_some_iff.1 HBQ.out).1).trans HBQ.out)
  clear hb hr hXg hg hrk
  obtain ⟨v15, hv, hb, -⟩ := laid1 v14 (.cells #[.int .i64 gV.roots, .slice ANV gV.nodes.length cNV, .slice ASV gV.sites.length cSV, .int .i64 gV.edges, .slice AOV gV.outer.length cOV, .slice AIV gV.inner.length cIV] 31)
  have HNv15 := Lib.hid hv
  have HBV := Lib.hid (show v15.heap[v14.heap.size]? = some (.cells #[.int .i64 gV.roots, .slice ANV gV.nodes.length cNV, .slice ASV gV.sites.length cSV, .int .i64 gV.edges, .slice AOV gV.outer.length cOV, .slice AIV gV.inner.length cIV] 31) from by rw [hv]; exact heap_alloc_new _ _)
  clear hv
  replace HWB := Lib.hid (HWB.out.trans (hb.mono HWB.out.size))
  replace HSG := Lib.hid (HSG.out.below RCt_keep hb)
  replace HRB := Lib.hid (HRB.out.below hb)
  replace HRX := Lib.hid (HRX.out.below hb)
  replace HRY := Lib.hid (HRY.out.below hb)
  replace HRP := Lib.hid (HRP.out.below hb)
  replace HRQ := Lib.hid (HRQ.out.below hb)
  replace HRV := Lib.hid (HRV.out.below hb)
  replace HBB := Lib.hid ((hb.block _ (Array.getElem?_eq_some_iff.1 HBB.out).1).trans HBB.out)
  replace HBX := Lib.hid ((hb.block _ (Array.getElem?_eq_some_iff.1 HBX.out).1).trans HBX.out)
  replace HBY := Lib.hid ((hb.block _ (Array.getElem?_eq_some_iff.1 HBY.out).1).trans HBY.out)
  replace HBP := Lib.hid ((hb.block _ (Array.getElem?_eq_some_iff.1 HBP.out).1).trans HBP.out)
  replace HBQ := Lib.hid ((hb.block _ (Array.getElem?_eq_some_iff.1 HBQ.out).1).trans HBQ.out)
  clear hb
  obtain ⟨cV0, cV1, cV2, cV3, cV4, cV5⟩ := row6 HBV.out
  obtain ⟨cB0, cB1, cB2, cB3, cB4, cB5⟩ := row6 HBB.out
  rw [HNv15.out] at cV0 cV1 cV2 cV3 cV4 cV5 cB0 cB1 cB2 cB3 cB4 cB5
  have hc := (show Calls Tryz.prog 26 #[.agg #[.int .i64 gV.roots, .slice ANV gV.nodes.length cNV, .slice ASV gV.sites.length cSV, .int .i64 gV.edges, .slice AOV gV.outer.length cOV, .slice AIV gV.inner.length cIV], .agg #[.int .i64 g.roots, .slice ANB g.nodes.length cNB, .slice ASB g.sites.length cSB, .int .i64 g.edges, .slice AOB g.outer.length cOB, .slice AIB g.inner.length cIB]] v15 (fun e w' => e = .returned (.bool true) ∧ Below v15.heap.size v15 w') from by
   have h1 := HRV.out
   have h2 := HRB.out
   have h3 := SMV.out
   have h := HEV.out
   subst h
   exact vGraph_same _ _ _ _ _ _ _ _ _ v15 h3 h1 h2)
  have HC := Lib.hid hc
  clear hc
  go_wp2_with fail
  rw [← HNv15.out]
  (with_reducible refine HC.out.mono ?_)
  rintro e v16 ⟨rfl, hb⟩
  clear HC cV0 cV1 cV2 cV3 cV4 cV5 cB0 cB1 cB2 cB3 cB4 cB5
  replace HWB := Lib.hid (HWB.out.trans (hb.mono HWB.out.size))
  replace HSG := Lib.hid (HSG.out.below RCt_keep hb)
  replace HRB := Lib.hid (HRB.out.below hb)
  replace HRX := Lib.hid (HRX.out.below hb)
  replace HRY := Lib.hid (HRY.out.below hb)
  replace HRP := Lib.hid (HRP.out.below hb)
  replace HRQ := Lib.hid (HRQ.out.below hb)
  replace HRV := Lib.hid (HRV.out.below hb)
  replace HBB := Lib.hid ((hb.block _ (Array.getElem?_eq_some_iff.1 HBB.out).1).trans HBB.out)
  replace HBX := Lib.hid ((hb.block _ (Array.getElem?_eq_some_iff.1 HBX.out).1).trans HBX.out)
  replace HBY := Lib.hid ((hb.block _ (Array.getElem?_eq_some_iff.1 HBY.out).1).trans HBY.out)
  replace HBP := Lib.hid ((hb.block _ (Array.getElem?_eq_some_iff.1 HBP.out).1).trans HBP.out)
  replace HBQ := Lib.hid ((hb.block _ (Array.getElem?_eq_some_iff.1 HBQ.out).1).trans HBQ.out)
  replace HBV := Lib.hid ((hb.block _ (Array.getElem?_eq_some_iff.1 HBV.out).1).trans HBV.out)
  clear hb
  have HJP := Lib.hid (show identR sig gP = true from by rw [HEP.out, HEX.out]; exact HL.out.i1)
  have HJQ := Lib.hid (show identR sig gQ = true from by rw [HEQ.out, HEX.out]; exact HL.out.i2)
  obtain ⟨cP0, cP1, cP2, cP3, cP4, cP5⟩ := row6 HBP.out
  have hc := implIsIdentity_any sig gP _ _ _ _ _ v16 SMP.out HSZ.out HCP.out HSG.out HRP.out
  rw [HJP.out] at hc
  have HC := Lib.hid hc
  clear hc
  go_wp2_with fail
  (with_reducible refine HC.out.mono ?_)
  rintro e v17 ⟨rfl, hb⟩
  clear HC cP0 cP1 cP2 cP3 cP4 cP5
  replace HWB := Lib.hid (HWB.out.trans (hb.mono HWB.out.size))
  replace HSG := Lib.hid (HSG.out.below RCt_keep hb)
  replace HRB := Lib.hid (HRB.out.below hb)
  replace HRX := Lib.hid (HRX.out.below hb)
  replace HRY := Lib.hid (HRY.out.below hb)
  replace HRP := Lib.hid (HRP.out.below hb)
  replace HRQ := Lib.hid (HRQ.out.below hb)
  replace HRV := Lib.hid (HRV.out.below hb)
  replace HBB := Lib.hid ((hb.block _ (Array.getElem?_eq_some_iff.1 HBB.out).1).trans HBB.out)
  replace HBX := Lib.hid ((hb.block _ (Array.getElem?_eq_some_iff.1 HBX.out).1).trans HBX.out)
  replace HBY := Lib.hid ((hb.block _ (Array.getElem?_eq_some_iff.1 HBY.out).1).trans HBY.out)
  replace HBP := Lib.hid ((hb.block _ (Array.getElem?_eq_some_iff.1 HBP.out).1).trans HBP.out)
  replace HBQ := Lib.hid ((hb.block _ (Array.getElem?_eq_some_iff.1 HBQ.out).1).trans HBQ.out)
  replace HBV := Lib.hid ((hb.block _ (Array.getElem?_eq_some_iff.1 HBV.out).1).trans HBV.out)
  clear hb
  obtain ⟨cQ0, cQ1, cQ2, cQ3, cQ4, cQ5⟩ := row6 HBQ.out
  have hc := implIsIdentity_any sig gQ _ _ _ _ _ v17 SMQ.out HSZ.out HCP.out HSG.out HRQ.out
  rw [HJQ.out] at hc
  have HC := Lib.hid hc
  clear hc
  go_wp2_with fail
  (with_reducible refine HC.out.mono ?_)
  rintro e v18 ⟨rfl, hb⟩
  clear HC cQ0 cQ1 cQ2 cQ3 cQ4 cQ5
  replace HWB := Lib.hid (HWB.out.trans (hb.mono HWB.out.size))
  replace HSG := Lib.hid (HSG.out.below RCt_keep hb)
  replace HRB := Lib.hid (HRB.out.below hb)
  replace HRX := Lib.hid (HRX.out.below hb)
  replace HRY := Lib.hid (HRY.out.below hb)
  replace HRP := Lib.hid (HRP.out.below hb)
  replace HRQ := Lib.hid (HRQ.out.below hb)
  replace HRV := Lib.hid (HRV.out.below hb)
  replace HBB := Lib.hid ((hb.block _ (Array.getElem?_eq_some_iff.1 HBB.out).1).trans HBB.out)
  replace HBX := Lib.hid ((hb.block _ (Array.getElem?_eq_some_iff.1 HBX.out).1).trans HBX.out)
  replace HBY := Lib.hid ((hb.block _ (Array.getElem?_eq_some_iff.1 HBY.out).1).trans HBY.out)
  replace HBP := Lib.hid ((hb.block _ (Array.getElem?_eq_some_iff.1 HBP.out).1).trans HBP.out)
  replace HBQ := Lib.hid ((hb.block _ (Array.getElem?_eq_some_iff.1 HBQ.out).1).trans HBQ.out)
  replace HBV := Lib.hid ((hb.block _ (Array.getElem?_eq_some_iff.1 HBV.out).1).trans HBV.out)
  clear hb
  go_wp2_with fail
  go_ret
  exact ⟨rfl, HWB.out⟩

end Go.Proofs.YtijkdpdmclkmlaaGreatDoor
