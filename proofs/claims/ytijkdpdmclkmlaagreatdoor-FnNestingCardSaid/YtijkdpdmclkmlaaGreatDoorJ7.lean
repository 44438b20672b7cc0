/- Bigraphs: the reference's test walked. -/
import Derived.Test.YtijkdpdmclkmlaaGreatDoorProg
import Derived.Test.YtijkdpdmclkmlaaGreatDoorJ0
import Derived.Test.YtijkdpdmclkmlaaGreatDoorJ6
set_option linter.unusedSimpArgs false
set_option linter.unusedVariables false
set_option maxRecDepth 100000
set_option maxHeartbeats 16000000
namespace Go.Proofs.YtijkdpdmclkmlaaGreatDoor
open Go.RowKit Go.Sort

theorem goodG_of (sig : List Ct) (g : Gr) : goodG sig g = (headB sig g && namesB g.outer && namesB (innerN g) && nodsB sig g && sitsB sig g && innsB g) := rfl
theorem head_false {sig : List Ct} {g : Gr} (h : headB sig g = false) : goodG sig g = false := by rw [goodG_of, h]; simp
theorem outer_false {sig : List Ct} {g : Gr} (h : namesB g.outer = false) : goodG sig g = false := by rw [goodG_of, h]; simp
theorem inner_false {sig : List Ct} {g : Gr} (h : namesB (innerN g) = false) : goodG sig g = false := by rw [goodG_of, h]; simp
theorem nods_false {sig : List Ct} {g : Gr} {k : Nat} (hk : k < g.nodes.length) (h : nodB sig g k = false) : goodG sig g = false := by
 have : nodsB sig g = false := allR_false hk h
 rw [goodG_of, this]; simp
theorem sits_false {sig : List Ct} {g : Gr} {k : Nat} (hk : k < g.sites.length) (h : underB sig g (g.sites.getD k 0) g.nodes.length = false) : goodG sig g = false := by
 have : sitsB sig g = false := allR_false (p := fun i => underB sig g (g.sites.getD i 0) g.nodes.length) hk h
 rw [goodG_of, this]; simp
theorem inns_false {sig : List Ct} {g : Gr} {k : Nat} (hk : k < g.inner.length) (h : linkB g (wiA g k).2 = false) : goodG sig g = false := by
 have : innsB g = false := allR_false (p := fun i => linkB g (wiA g i).2) hk h
 rw [goodG_of, this]; simp
theorem innerN_small {g : Gr} (hs : SmallG g) : (innerN g).length ≤ 1000 ∧ ∀ s ∈ innerN g, s.size ≤ 1000 := by
 refine ⟨by rw [innerN_len]; exact hs.inner, fun s h => ?_⟩
 unfold innerN at h
 obtain ⟨x, hx, rfl⟩ := List.mem_map.1 h
 exact hs.inames x hx
theorem ctl_next {sig : List Ct} {g : Gr} {k : Nat} (h : CtlOk sig g k) (hn : nodB sig g k = true) : CtlOk sig g (k + 1) := fun j hj => by
 rcases Nat.lt_succ_iff_lt_or_eq.1 hj with h' | h'
 ·exact h j h'
 unfold nodB at hn
 simp only [Bool.and_eq_true] at hn
 rw [h']; exact hn.1.1.1

theorem l2Good_any (sig : List Ct) (g : Gr) (nv sv ov iv gv : Value) (w : World) (hs : SmallG g) (hz : SmallS sig) (hS : RSl RCt 3 w gv sig) (hG : RGr w nv sv ov iv g) :
  Calls Tryz.prog 135 #[gv, .agg #[.int .i64 g.roots, nv, sv, .int .i64 g.edges, ov, iv]] w fun e w' => e = .returned (.bool (goodG sig g)) ∧ Below w.heap.size w w' := by
 have HG := Lib.hid (show ∀ W, Below w.heap.size w W → RGr W nv sv ov iv g from fun W hb => hG.below hb)
 have HS := Lib.hid (show ∀ W, Below w.heap.size w W → RSl RCt 3 W gv sig from fun W hb => hS.below RCt_keep hb)
 have HSM := Lib.hid hs
 have HSZ := Lib.hid hz
 have hsl := hz.len
 have n1 := hs.nodes
 have n2 := hs.sites
 have n3 := hs.inner
 have n4 := hs.outer
 have HIS := Lib.hid (innerN_small hs)
 obtain ⟨AN, cN, AS, cS, AO, cO, AI, cI, rfl, rfl, rfl, rfl⟩ := hG.form
 obtain ⟨AG, cG, rfl, _⟩ := hS.form
 obtain ⟨w0, hw0, hb0, hs0, bx0⟩ := laid1 w (.cells #[.int .i64 g.roots, .slice AN g.nodes.length cN, .slice AS g.sites.length cS, .int .i64 g.edges, .slice AO g.outer.length cO, .slice AI g.inner.length cI] 31)
 have HX := Lib.hid (keepB bx0)
 have HB0 := Lib.hid hb0
 have HW0 := Lib.hid hw0
 have H1 := Lib.hid (l2Sig_any _ sig w0 hz (HS.out w0 hb0))
 have HI := Lib.hid l1In_any
 clear hS hG hs hz hb0 bx0 hw0
 have HHD := Lib.hid (show headB sig g = (sigB sig && inB g.roots 0 4 && decide (g.nodes.length ≤ 8) && decide (g.sites.length ≤ 4) && inB g.edges 0 8) from rfl)
 cases h1 : sigB sig
 ·have HFF := Lib.hid (head_false (show headB sig g = false from by rw [HHD.out, h1]; rfl))
  rw [h1] at H1
  go_enter Tryz.func135, Tryz.ntmps135
  go_wp2_with fail
  rw [← HW0.out]
  refine H1.out.mono ?_
  rintro e w1 ⟨rfl, hb1⟩
  have HB1 := Lib.hid hb1
  have HZ1 := Lib.hid (HB0.out.trans (hb1.mono HB0.out.size))
  have bx1 := HX.out w1 hb1
  obtain ⟨x0, x1, x2, x3, x4, x5⟩ := row6 bx1
  clear hb1 bx1
  go_wp2_with ((with_reducible refine (HI.out _ _ _ _).mono ?_); rintro e w' ⟨rfl, rfl⟩)
  go_ret
  exact ⟨by rw [HFF.out]; rfl, HZ1.out⟩
 rw [h1] at H1
 cases h2 : inB g.roots 0 4
 ·have HFF := Lib.hid (head_false (show headB sig g = false from by rw [HHD.out, h2]; simp))
  go_enter Tryz.func135, Tryz.ntmps135
  go_wp2_with fail
  rw [← HW0.out]
  refine H1.out.mono ?_
  rintro e w1 ⟨rfl, hb1⟩
  have HB1 := Lib.hid hb1
  have HZ1 := Lib.hid (HB0.out.trans (hb1.mono HB0.out.size))
  have bx1 := HX.out w1 hb1
  obtain ⟨x0, x1, x2, x3, x4, x5⟩ := row6 bx1
  clear hb1 bx1
  go_wp2_with ((with_reducible refine (HI.out _ _ _ _).mono ?_); rintro e w' ⟨rfl, rfl⟩)
  go_ret
  exact ⟨by rw [HFF.out]; rfl, HZ1.out⟩
 skip
 by_cases h3 : (8 : Int) < (g.nodes.length : Int)
 ·have HFF := Lib.hid (head_false (show headB sig g = false from by rw [HHD.out, decide_eq_false (show ¬ g.nodes.length ≤ 8 by omega)]; simp))
  go_enter Tryz.func135, Tryz.ntmps135
  go_wp2_with fail
  rw [← HW0.out]
  refine H1.out.mono ?_
  rintro e w1 ⟨rfl, hb1⟩
  have HB1 := Lib.hid hb1
  have HZ1 := Lib.hid (HB0.out.trans (hb1.mono HB0.out.size))
  have bx1 := HX.out w1 hb1
  obtain ⟨x0, x1, x2, x3, x4, x5⟩ := row6 bx1
  clear hb1 bx1
  go_wp2_with ((with_reducible refine (HI.out _ _ _ _).mono ?_); rintro e w' ⟨rfl, rfl⟩)
  go_ret
  exact ⟨by rw [HFF.out]; rfl, HZ1.out⟩
 skip
 by_cases h4 : (4 : Int) < (g.sites.length : Int)
 ·have HFF := Lib.hid (head_false (show headB sig g = false from by rw [HHD.out, decide_eq_false (show ¬ g.sites.length ≤ 4 by omega)]; simp))
  go_enter Tryz.func135, Tryz.ntmps135
  go_wp2_with fail
  rw [← HW0.out]
  refine H1.out.mono ?_
  rintro e w1 ⟨rfl, hb1⟩
  have HB1 := Lib.hid hb1
  have HZ1 := Lib.hid (HB0.out.trans (hb1.mono HB0.out.size))
  have bx1 := HX.out w1 hb1
  obtain ⟨x0, x1, x2, x3, x4, x5⟩ := row6 bx1
  clear hb1 bx1
  go_wp2_with ((with_reducible refine (HI.out _ _ _ _).mono ?_); rintro e w' ⟨rfl, rfl⟩)
  go_ret
  exact ⟨by rw [HFF.out]; rfl, HZ1.out⟩
 skip
 cases h5 : inB g.edges 0 8
 ·have HFF := Lib.hid (head_false (show headB sig g = false from by rw [HHD.out, h5]; simp))
  go_enter Tryz.func135, Tryz.ntmps135
  go_wp2_with fail
  rw [← HW0.out]
  refine H1.out.mono ?_
  rintro e w1 ⟨rfl, hb1⟩
  have HB1 := Lib.hid hb1
  have HZ1 := Lib.hid (HB0.out.trans (hb1.mono HB0.out.size))
  have bx1 := HX.out w1 hb1
  obtain ⟨x0, x1, x2, x3, x4, x5⟩ := row6 bx1
  clear hb1 bx1
  go_wp2_with ((with_reducible refine (HI.out _ _ _ _).mono ?_); rintro e w' ⟨rfl, rfl⟩)
  go_ret
  exact ⟨by rw [HFF.out]; rfl, HZ1.out⟩
 skip
 have HH := Lib.hid (show headB sig g = true from by rw [HHD.out, h1, h2, h5, decide_eq_true (show g.nodes.length ≤ 8 by omega), decide_eq_true (show g.sites.length ≤ 4 by omega)]; rfl)
 have HGG := Lib.hid (show goodG sig g = (namesB g.outer && namesB (innerN g) && nodsB sig g && sitsB sig g && innsB g) from by rw [goodG_of, HH.out, Bool.true_and])
 go_enter Tryz.func135, Tryz.ntmps135
 go_wp2_with fail
 rw [← HW0.out]
 refine H1.out.mono ?_
 rintro e w1 ⟨rfl, hb1⟩
 have HB1 := Lib.hid hb1
 have HZ1 := Lib.hid (HB0.out.trans (hb1.mono HB0.out.size))
 have bx1 := HX.out w1 hb1
 obtain ⟨x0, x1, x2, x3, x4, x5⟩ := row6 bx1
 clear hb1 bx1
 go_wp2_with ((with_reducible refine (HI.out _ _ _ _).mono ?_); rintro e w' ⟨rfl, rfl⟩)
 obtain ⟨A2, c2, e2, r2⟩ := (HG.out w1 HZ1.out).o
 cases e2
 have H2 := Lib.hid (l2Names_any AO cO g.outer w1 n4 HSM.out.onames r2)
 clear r2
 cases h6 : namesB g.outer
 ·have HFF := Lib.hid (outer_false (sig := sig) h6)
  rw [h6] at H2
  go_wp2_with fail
  refine H2.out.mono ?_
  rintro e w2 ⟨rfl, hb2⟩
  have HB2 := Lib.hid (HB1.out.trans (hb2.mono HB1.out.size))
  have HZ2 := Lib.hid (HZ1.out.trans (hb2.mono HZ1.out.size))
  have bx2 := HX.out w2 HB2.out
  clear hb2 x0 x1 x2 x3 x4 x5
  obtain ⟨x0, x1, x2, x3, x4, x5⟩ := row6 bx2
  go_wp2_with fail
  go_ret
  exact ⟨by rw [HFF.out]; rfl, HZ2.out⟩
 rw [h6] at H2
 by_cases h7 : (16 : Int) < (g.inner.length : Int)
 ·have HFF := Lib.hid (inner_false (sig := sig) (g := g) (show namesB (innerN g) = false from by unfold namesB; rw [decide_eq_false (show ¬ (innerN g).length ≤ 16 by rw [innerN_len]; omega), Bool.and_false]))
  go_wp2_with fail
  refine H2.out.mono ?_
  rintro e w2 ⟨rfl, hb2⟩
  have HB2 := Lib.hid (HB1.out.trans (hb2.mono HB1.out.size))
  have HZ2 := Lib.hid (HZ1.out.trans (hb2.mono HZ1.out.size))
  have bx2 := HX.out w2 HB2.out
  clear hb2 x0 x1 x2 x3 x4 x5
  obtain ⟨x0, x1, x2, x3, x4, x5⟩ := row6 bx2
  go_wp2_with fail
  go_ret
  exact ⟨by rw [HFF.out]; rfl, HZ2.out⟩
 go_wp2_with fail
 refine H2.out.mono ?_
 rintro e w2 ⟨rfl, hb2⟩
 have HB2 := Lib.hid (HB1.out.trans (hb2.mono HB1.out.size))
 have HZ2 := Lib.hid (HZ1.out.trans (hb2.mono HZ1.out.size))
 have bx2 := HX.out w2 HB2.out
 clear hb2 x0 x1 x2 x3 x4 x5
 obtain ⟨x0, x1, x2, x3, x4, x5⟩ := row6 bx2
 have H3 := Lib.hid (l2Inner_any g _ _ _ _ w2 HSM.out (HG.out w2 HZ2.out))
 go_wp2_with fail
 refine H3.out.mono ?_
 rintro e w3 ⟨r3, rfl, ho3, hb3⟩
 obtain ⟨A3, c3, rfl, ho3⟩ := owns_form ho3
 have HB3 := Lib.hid (HB2.out.trans (hb3.mono HB2.out.size))
 have HZ3 := Lib.hid (HZ2.out.trans (hb3.mono HZ2.out.size))
 have H4 := Lib.hid (l2Names_any A3 c3 (innerN g) w3 HIS.out.1 HIS.out.2 (Cells.of_owns ho3))
 rw [innerN_len] at H4
 clear ho3 hb3 bx2 x0 x1 x2 x3 x4 x5
 cases h8 : namesB (innerN g)
 ·have HFF := Lib.hid (inner_false (sig := sig) h8)
  rw [h8] at H4
  go_wp2_with fail
  refine H4.out.mono ?_
  rintro e w4 ⟨rfl, hb4⟩
  have HB4 := Lib.hid (HB3.out.trans (hb4.mono HB3.out.size))
  have HZ4 := Lib.hid (HZ3.out.trans (hb4.mono HZ3.out.size))
  clear hb4
  go_wp2_with fail
  go_ret
  exact ⟨by rw [HFF.out]; rfl, HZ4.out⟩
 rw [h8] at H4
 go_wp2_with fail
 refine H4.out.mono ?_
 rintro e w4 ⟨rfl, hb4⟩
 have HB4 := Lib.hid (HB3.out.trans (hb4.mono HB3.out.size))
 have HZ4 := Lib.hid (HZ3.out.trans (hb4.mono HZ3.out.size))
 clear hb4
 have HG3 := Lib.hid (show goodG sig g = (nodsB sig g && sitsB sig g && innsB g) from by rw [HGG.out, h6, h8]; rfl)
 go_wp2_with fail
 go_loopw [5] (fun z wx => ∃ k : Nat, k ≤ g.nodes.length ∧ z = .int .i64 k ∧ (∀ j, j < k → nodB sig g j = true) ∧ CtlOk sig g k ∧ Below w0.heap.size w0 wx)
  (fun z _ => g.nodes.length - (intOf z).toNat)
 case atStart => exact ⟨0, Nat.zero_le _, rfl, fun j hj => by omega, fun j hj => by omega, HB4.out⟩
 obtain ⟨k, hk, rfl, hall, hctl, hbr⟩ := hrel
 have HALL := Lib.hid hall
 have HBR := Lib.hid hbr
 have HZR := Lib.hid (HB0.out.trans (hbr.mono HB0.out.size))
 have bxr := HX.out wr hbr
 obtain ⟨x0, x1, x2, x3, x4, x5⟩ := row6 bxr
 clear hbr bxr hall
 by_cases hlt : k < g.nodes.length
 ·have hp : -9223372036854775808 ≤ (nodA g k).2.1 := by rw [nodA_get hlt]; exact HSM.out.pars _ (List.getElem_mem hlt)
  have HN := Lib.hid (l2Node_any sig g _ _ _ _ _ k wr HSM.out (HS.out wr HZR.out) hsl (HG.out wr HZR.out) hlt hctl hp)
  have HCT := Lib.hid hctl
  clear hp hctl
  cases hn : nodB sig g k
  ·have HFF := Lib.hid (nods_false hlt hn)
   rw [hn] at HN
   go_wp2_with fail
   refine HN.out.mono ?_
   rintro e w5 ⟨rfl, hb5⟩
   have HZ5 := Lib.hid (HZR.out.trans (hb5.mono HZR.out.size))
   go_wp2_with fail
   go_ret
   exact ⟨by rw [HFF.out]; rfl, HZ5.out⟩
  have HTT := Lib.hid (all_next HALL.out hn)
  have HCC := Lib.hid (ctl_next HCT.out hn)
  rw [hn] at HN
  go_wp2_with fail
  refine HN.out.mono ?_
  rintro e w5 ⟨rfl, hb5⟩
  have HB5 := Lib.hid (HBR.out.trans (hb5.mono HBR.out.size))
  clear hb5
  go_wp2_with fail
  go_roundw
  case rel => exact ⟨k + 1, by omega, by go_num, HTT.out, HCC.out, HB5.out⟩
  case measure => simp [intOf]; omega
 obtain rfl : k = g.nodes.length := by omega
 have HNS := Lib.hid (show nodsB sig g = true from allR_true HALL.out)
 have HCT := Lib.hid hctl
 clear hctl
 go_wp2_with fail
 obtain ⟨wa, hwa⟩ : ∃ wa, wa = wr := ⟨_, rfl⟩
 subst hwa
 go_loopw [6] (fun z wx => ∃ k : Nat, k ≤ g.sites.length ∧ z = .int .i64 k ∧ (∀ j, j < k → underB sig g (g.sites.getD j 0) g.nodes.length = true) ∧ Below w0.heap.size w0 wx)
  (fun z _ => g.sites.length - (intOf z).toNat)
 case atStart => exact ⟨0, Nat.zero_le _, rfl, fun j hj => by omega, HBR.out⟩
 clear x0 x1 x2 x3 x4 x5 HBR HZR HALL
 obtain ⟨k, hk, rfl, hall, hbr⟩ := hrel
 have HALL := Lib.hid hall
 have HBR := Lib.hid hbr
 have HZR := Lib.hid (HB0.out.trans (hbr.mono HB0.out.size))
 have bxr := HX.out wr hbr
 obtain ⟨x0, x1, x2, x3, x4, x5⟩ := row6 bxr
 by_cases hlt : k < g.sites.length
 ·obtain ⟨A5, c5, e5, r5⟩ := (HG.out wr HZR.out).s
  cases e5
  obtain ⟨bs, os, eA, kk⟩ := r5.int hlt
  have l0 := cell_regrown (kk k hlt)
  subst eA
  have hp : -9223372036854775808 ≤ g.sites.getD k 0 := by
   simp only [List.getD, List.getElem?_eq_getElem hlt, Option.getD_some]
   exact HSM.out.sits _ (List.getElem_mem hlt)
  have CU := Lib.hid (fun d os => Calls.regrown_of (l2Under_any sig g _ _ _ _ _ (g.sites.getD k 0) g.nodes.length (grow (redrawn wr d) os) HSM.out (HS.out _ (HZR.out.trans ((below_regrown wr d os).mono HZR.out.size))) hsl (HG.out _ (HZR.out.trans ((below_regrown wr d os).mono HZR.out.size))) hp (Nat.le_refl _) HCT.out))
  have HFA := Lib.hid (fun h => sits_false (sig := sig) hlt h)
  have HTA := Lib.hid (fun h => all_next (p := fun k => underB sig g (g.sites.getD k 0) g.nodes.length) HALL.out h)
  have v0 : (0 : Int) ≤ (k : Int) := by omega
  have v1 : (k : Int) < (g.sites.length : Int) := by omega
  clear kk hbr bxr hall hp
  have x0 := cell_regrown x0
  have x1 := cell_regrown x1
  have x2 := cell_regrown x2
  have x3 := cell_regrown x3
  have x4 := cell_regrown x4
  have x5 := cell_regrown x5
  generalize g.sites.getD k 0 = p at *
  cases hu : underB sig g p g.nodes.length
  ·have HFF := Lib.hid (HFA.out hu)
   rw [hu] at CU
   clear hu
   go_wp2_with fail
   refine wp_region_quiet_below (by kernel_rfl) (by kernel_rfl) ?_
   repeat (go_big_quiet_step (exact CU.out _ _))
   refine wpQuiet_nil ?_
   intro _ hw'
   obtain ⟨⟨dq5, osq5⟩, hw''⟩ := hw'
   subst hw''
   have hb5 := below_regrown wr dq5 osq5
   have HZ5 := Lib.hid (HZR.out.trans (hb5.mono HZR.out.size))
   go_wp2_with fail
   go_ret
   exact ⟨by rw [HFF.out]; rfl, HZ5.out⟩
  have HTT := Lib.hid (HTA.out hu)
  rw [hu] at CU
  clear hu
  go_wp2_with fail
  refine wp_region_quiet_below (by kernel_rfl) (by kernel_rfl) ?_
  repeat (go_big_quiet_step (exact CU.out _ _))
  refine wpQuiet_nil ?_
  intro _ hw'
  obtain ⟨⟨dq5, osq5⟩, hw''⟩ := hw'
  subst hw''
  have hb5 := below_regrown wr dq5 osq5
  have HB5 := Lib.hid (HBR.out.trans (hb5.mono HBR.out.size))
  go_wp2_with fail
  go_roundw
  case rel => exact ⟨k + 1, by omega, by go_num, HTT.out, HB5.out⟩
  case measure => simp [intOf]; omega
 obtain rfl : k = g.sites.length := by omega
 have HSS := Lib.hid (show sitsB sig g = true from allR_true HALL.out)
 clear hbr bxr hall
 go_wp2_with fail
 obtain ⟨wa2, hwa2⟩ : ∃ wa2, wa2 = wr := ⟨_, rfl⟩
 subst hwa2
 go_loopw [7] (fun z wx => ∃ k : Nat, k ≤ g.inner.length ∧ z = .int .i64 k ∧ (∀ j, j < k → linkB g (wiA g j).2 = true) ∧ Below w0.heap.size w0 wx)
  (fun z _ => g.inner.length - (intOf z).toNat)
 case atStart => exact ⟨0, Nat.zero_le _, rfl, fun j hj => by omega, HBR.out⟩
 clear x0 x1 x2 x3 x4 x5 HBR HZR HALL
 obtain ⟨k, hk, rfl, hall, hbr⟩ := hrel
 have HALL := Lib.hid hall
 have HBR := Lib.hid hbr
 have HZR := Lib.hid (HB0.out.trans (hbr.mono HB0.out.size))
 have bxr := HX.out wr hbr
 obtain ⟨x0, x1, x2, x3, x4, x5⟩ := row6 bxr
 by_cases hlt : k < g.inner.length
 ·obtain ⟨bs, os, cs, eI, _, l1⟩ := wi_at (HG.out wr HZR.out).i hlt
  cases eI
  rw [← wiA_get hlt] at l1
  have l1 := cell_regrown l1
  have CU := Lib.hid (fun d os => Calls.regrown_of (l2Link_any g _ _ _ _ (wiA g k).2 (grow (redrawn wr d) os) HSM.out (HG.out _ (HZR.out.trans ((below_regrown wr d os).mono HZR.out.size)))))
  have HFA := Lib.hid (fun h => inns_false (sig := sig) hlt h)
  have HTA := Lib.hid (fun h => all_next (p := fun k => linkB g (wiA g k).2) HALL.out h)
  have v0 : (0 : Int) ≤ (k : Int) := by omega
  have v1 : (k : Int) < (g.inner.length : Int) := by omega
  clear hbr bxr hall
  have x0 := cell_regrown x0
  have x1 := cell_regrown x1
  have x2 := cell_regrown x2
  have x3 := cell_regrown x3
  have x4 := cell_regrown x4
  have x5 := cell_regrown x5
  generalize (wiA g k).2 = p at *
  cases hu : linkB g p
  ·have HFF := Lib.hid (HFA.out hu)
   rw [hu] at CU
   clear hu
   go_wp2_with fail
   refine wp_region_quiet_below (by kernel_rfl) (by kernel_rfl) ?_
   repeat (go_big_quiet_step (exact CU.out _ _))
   refine wpQuiet_nil ?_
   intro _ hw'
   obtain ⟨⟨dq5, osq5⟩, hw''⟩ := hw'
   subst hw''
   have hb5 := below_regrown wr dq5 osq5
   have HZ5 := Lib.hid (HZR.out.trans (hb5.mono HZR.out.size))
   go_wp2_with fail
   go_ret
   exact ⟨by rw [HFF.out]; rfl, HZ5.out⟩
  have HTT := Lib.hid (HTA.out hu)
  rw [hu] at CU
  clear hu
  go_wp2_with fail
  refine wp_region_quiet_below (by kernel_rfl) (by kernel_rfl) ?_
  repeat (go_big_quiet_step (exact CU.out _ _))
  refine wpQuiet_nil ?_
  intro _ hw'
  obtain ⟨⟨dq5, osq5⟩, hw''⟩ := hw'
  subst hw''
  have hb5 := below_regrown wr dq5 osq5
  have HB5 := Lib.hid (HBR.out.trans (hb5.mono HBR.out.size))
  go_wp2_with fail
  go_roundw
  case rel => exact ⟨k + 1, by omega, by go_num, HTT.out, HB5.out⟩
  case measure => simp [intOf]; omega
 obtain rfl : k = g.inner.length := by omega
 have HFI := Lib.hid (show goodG sig g = true from by rw [HG3.out, HNS.out, HSS.out]; exact allR_true HALL.out)
 clear hbr bxr hall
 go_wp2_with fail
 go_ret
 exact ⟨by rw [HFI.out]; rfl, HZR.out⟩

end Go.Proofs.YtijkdpdmclkmlaaGreatDoor
