/- Lists of names, and signatures: the reference's tests walked. Nodes: the reference's test walked. -/
import Derived.Test.YtijkdpdmclkmlaaGreatDoorProg
import Derived.Test.YtijkdpdmclkmlaaGreatDoorJ5
import Derived.Test.YtijkdpdmclkmlaaGreatDoorJ0
import Derived.Lib.QuietBelow
set_option linter.unusedSimpArgs false
set_option linter.unusedVariables false
set_option maxRecDepth 100000
set_option maxHeartbeats 16000000
namespace Go.Proofs.YtijkdpdmclkmlaaGreatDoor
open Go.RowKit
theorem l2Name_q (s : ByteArray) (w : World) (hs : s.size ≤ maxLen) : Calls Tryz.prog 201 #[.string s] w fun e w' => e = .returned (.bool (nameB s)) ∧ w' = w :=
  (l2Name_any s w hs).mono fun _ _ ⟨a, b⟩ => ⟨a, b.symm⟩

theorem l2Names_any (A : Option Addr) (c : Nat) (l : List ByteArray) (w : World) (hl : l.length ≤ 1000) (hz : ∀ s ∈ l, s.size ≤ 1000) (hA : Cells w A (strs l)) :
    Calls Tryz.prog 179 #[.slice A l.length c] w fun e w' => e = .returned (.bool (namesB l)) ∧ Below w.heap.size w w' := by
  have HA := Lib.hid (show ∀ W, Below w.heap.size w W → Cells W A (strs l) from fun W hb => hA.below hb)
  have HZ := Lib.hid (show ∀ k, k < l.length → (l.getD k default).size ≤ 1000 from fun k hk => by
    simp only [List.getD, List.getElem?_eq_getElem hk, Option.getD_some]
    exact hz _ (List.getElem_mem hk))
  clear hA hz
  go_enter Tryz.func179, Tryz.ntmps179
  go_wp2_with fail
  go_loopw [3] (fun i wr => ∃ k : Nat, k ≤ l.length ∧ i = .int .i64 k ∧ (∀ j, j < k → nameAt l j = true) ∧ Below w.heap.size w wr)
    (fun i _ => l.length - (intOf i).toNat)
  case atStart => exact ⟨0, Nat.zero_le _, rfl, fun j hj => by omega, Below.refl _ _⟩
  obtain ⟨k, hk, rfl, hall, hbel⟩ := hrel
  have HALL := Lib.hid hall
  have HBE := Lib.hid hbel
  clear hall
  by_cases hlt : k < l.length
  · obtain ⟨b, o, eA, hc⟩ := (HA.out wr hbel).str hlt
    have c0 := hc k hlt
    have HN := Lib.hid (fun W => l2Name_q (l.getD k default) W (by have := HZ.out k hlt; unfold maxLen; omega))
    have HAT := Lib.hid (show nameAt l k = (nameB (l.getD k default) && (k == 0 || lessS (l.getD (k - 1) default) (l.getD k default))) from rfl)
    have HF := Lib.hid (show nameAt l k = false → namesB l = false from fun h => by unfold namesB; rw [allR_false hlt h, Bool.false_and])
    have HN2 := Lib.hid (show nameAt l k = true → ∀ j, j < k + 1 → nameAt l j = true from fun h => all_next HALL.out h)
    cases k with
    | zero =>
      subst eA
      rw [Nat.add_zero] at c0
      clear hc hbel
      cases hn : nameB (l.getD 0 default)
      · have HFF := Lib.hid (HF.out (by rw [HAT.out, hn]; rfl))
        rw [hn] at HN
        clear hn
        generalize l.getD 0 default = s at *
        go_wp2_with fail
        go_quiet ((go_at_call 201; exact Calls.quiet_of_same (HN.out _)))
        go_wp2_with fail
        go_ret
        exact ⟨by rw [HFF.out]; rfl, below_drewN' HBE.out _⟩
      have HTT := Lib.hid (HN2.out (by rw [HAT.out, hn]; rfl))
      rw [hn] at HN
      clear hn
      generalize l.getD 0 default = s at *
      go_wp2_with fail
      go_quiet ((go_at_call 201; exact Calls.quiet_of_same (HN.out _)))
      go_wp2_with fail
      go_roundw
      case rel => exact ⟨1, by omega, by go_num, HTT.out, below_drewN' HBE.out _⟩
      case measure => simp [intOf]; omega
    | succ m =>
      have c1 := hc m (by omega)
      subst eA
      clear hc hbel
      rw [Nat.add_sub_cancel] at HAT
      cases hn : nameB (l.getD (m + 1) default)
      · have HFF := Lib.hid (HF.out (by rw [HAT.out, hn]; rfl))
        rw [hn] at HN
        clear hn c1
        generalize l.getD (m + 1) default = s at *
        go_wp2_with fail
        go_quiet ((go_at_call 201; exact Calls.quiet_of_same (HN.out _)))
        go_wp2_with fail
        go_ret
        exact ⟨by rw [HFF.out]; rfl, below_drewN' HBE.out _⟩
      rw [hn] at HN
      cases hq : lessS (l.getD m default) (l.getD (m + 1) default)
      · have HFF := Lib.hid (HF.out (by rw [HAT.out, hq]; simp))
        have hlq : Op.bytesLess (l.getD m default).toList (l.getD (m + 1) default).toList = false := hq
        clear hn hq
        generalize l.getD (m + 1) default = s at *
        generalize l.getD m default = p at *
        go_wp2_with fail
        go_quiet ((go_at_call 201; exact Calls.quiet_of_same (HN.out _)))
        go_wp2_with fail
        go_ret
        exact ⟨by rw [HFF.out]; rfl, below_drewN' HBE.out _⟩
      have HTT := Lib.hid (HN2.out (by rw [HAT.out, hn, hq]; simp))
      have hlq : Op.bytesLess (l.getD m default).toList (l.getD (m + 1) default).toList = true := hq
      clear hn hq
      generalize l.getD (m + 1) default = s at *
      generalize l.getD m default = p at *
      go_wp2_with fail
      go_quiet ((go_at_call 201; exact Calls.quiet_of_same (HN.out _)))
      go_wp2_with fail
      go_roundw
      case rel => exact ⟨m + 1 + 1, by omega, by go_num, HTT.out, below_drewN' HBE.out _⟩
      case measure => simp [intOf]; omega
  obtain rfl : k = l.length := by omega
  have HE := Lib.hid (show namesB l = decide ((l.length : Int) ≤ 16) from by
    unfold namesB
    rw [allR_true HALL.out, Bool.true_and]
    by_cases h : l.length ≤ 16
    · rw [decide_eq_true h, decide_eq_true (by omega)]
    rw [decide_eq_false h, decide_eq_false (by omega)])
  clear hbel
  go_wp2_with fail
  go_ret
  exact ⟨by rw [HE.out]; rfl, HBE.out⟩

theorem RSl.cts {w w' : World} {v : Value} {l : List Ct} (h : RSl RCt 3 w v l) (hb : Below w.heap.size w w') : RSl RCt 3 w' v l := h.below RCt_keep hb

/-- No control before k bears the name of the control at i. -/
def NoNm (sig : List Ct) (i k : Nat) : Prop := ∀ j, j < k → decide ((ctA sig j).1 = (ctA sig i).1) = false
theorem noNm_all {sig : List Ct} {i : Nat} (h : NoNm sig i i) : (anyR i fun k => decide ((ctA sig k).1 = (ctA sig i).1)) = false := by
  unfold anyR
  rw [List.any_eq_false]
  intro x hx
  rw [h x (List.mem_range.1 hx)]
  exact Bool.false_ne_true
theorem noNm_any {sig : List Ct} {i k : Nat} (hk : k < i) (h : decide ((ctA sig k).1 = (ctA sig i).1) = true) : (anyR i fun k => decide ((ctA sig k).1 = (ctA sig i).1)) = true := by
  unfold anyR
  rw [List.any_eq_true]
  exact ⟨k, List.mem_range.2 hk, h⟩

theorem l2Sig_any (v : Value) (sig : List Ct) (w : World) (hs : SmallS sig) (hv : RSl RCt 3 w v sig) :
    Calls Tryz.prog 194 #[v] w fun e w' => e = .returned (.bool (sigB sig)) ∧ Below w.heap.size w w' := by
  have HV := Lib.hid (show ∀ W, Below w.heap.size w W → RSl RCt 3 W v sig from fun W hb => hv.cts hb)
  have HZ := Lib.hid (show ∀ k, k < sig.length → (ctA sig k).1.size ≤ 1000 from fun k hk => by
    rw [ctA_get hk]
    exact hs.name _ (List.getElem_mem hk))
  have hl := hs.len
  obtain ⟨A, c, rfl, _⟩ := hv.form
  clear hv hs
  go_enter Tryz.func194, Tryz.ntmps194
  go_wp2_with fail
  go_loopw [3] (fun i wr => ∃ k : Nat, k ≤ sig.length ∧ i = .int .i64 k ∧ (∀ j, j < k → ctB sig j = true) ∧ Below w.heap.size w wr)
    (fun i _ => sig.length - (intOf i).toNat)
  case atStart => exact ⟨0, Nat.zero_le _, rfl, fun j hj => by omega, Below.refl _ _⟩
  obtain ⟨i, hi, rfl, hall, hbel⟩ := hrel
  have HALL := Lib.hid hall
  have HBE := Lib.hid hbel
  clear hall
  by_cases hlt : i < sig.length
  · obtain ⟨b, o, c', ev, k0, k1, k2⟩ := ct_at (HV.out wr hbel) hlt
    cases ev
    have HN := Lib.hid (fun W => l2Name_any (ctA sig i).1 W (by have := HZ.out i hlt; unfold maxLen; omega))
    have HAT := Lib.hid (show ctB sig i = (nameB (ctA sig i).1 && inB (ctA sig i).2.1 0 3 && inB (ctA sig i).2.2 0 2 && !anyR i fun k => decide ((ctA sig k).1 = (ctA sig i).1)) from rfl)
    have HF := Lib.hid (show ctB sig i = false → sigB sig = false from fun h => by unfold sigB; rw [allR_false hlt h, Bool.and_false])
    have HN2 := Lib.hid (show ctB sig i = true → ∀ j, j < i + 1 → ctB sig j = true from fun h => all_next HALL.out h)
    have HQ := Lib.hid l1In_any
    rw [← ctA_get hlt] at k0 k1 k2
    clear hbel
    obtain ⟨s, hS⟩ : ∃ s, s = (ctA sig i).1 := ⟨_, rfl⟩
    obtain ⟨x, hX⟩ : ∃ x, x = (ctA sig i).2.1 := ⟨_, rfl⟩
    obtain ⟨y, hY⟩ : ∃ y, y = (ctA sig i).2.2 := ⟨_, rfl⟩
    have HSS := Lib.hid hS
    rw [← hX, ← hY] at HAT
    rw [← hS] at HN k0 HAT
    rw [← hX] at k1
    rw [← hY] at k2
    clear hS hX hY
    cases hn : nameB s
    · have HFF := Lib.hid (HF.out (by rw [HAT.out, hn]; rfl))
      rw [hn] at HN
      clear hn
      go_wp2_with (first | ((with_reducible refine (HN.out _).mono ?_); rintro e w' ⟨rfl, rfl⟩) | ((with_reducible refine (HQ.out _ _ _ _).mono ?_); rintro e w' ⟨rfl, rfl⟩))
      go_ret
      exact ⟨by rw [HFF.out]; rfl, HBE.out⟩
    rw [hn] at HN
    cases h1 : inB x 0 3
    · have HFF := Lib.hid (HF.out (by rw [HAT.out, h1]; simp))
      clear hn
      go_wp2_with (first | ((with_reducible refine (HN.out _).mono ?_); rintro e w' ⟨rfl, rfl⟩) | ((with_reducible refine (HQ.out _ _ _ _).mono ?_); rintro e w' ⟨rfl, rfl⟩))
      go_ret
      exact ⟨by rw [HFF.out]; rfl, HBE.out⟩
    cases h2 : inB y 0 2
    · have HFF := Lib.hid (HF.out (by rw [HAT.out, h2]; simp))
      clear hn
      go_wp2_with (first | ((with_reducible refine (HN.out _).mono ?_); rintro e w' ⟨rfl, rfl⟩) | ((with_reducible refine (HQ.out _ _ _ _).mono ?_); rintro e w' ⟨rfl, rfl⟩))
      go_ret
      exact ⟨by rw [HFF.out]; rfl, HBE.out⟩
    have HAT2 := Lib.hid (show ctB sig i = !anyR i (fun k => decide ((ctA sig k).1 = (ctA sig i).1)) from by rw [HAT.out, hn, h1, h2]; rw [HSS.out]; rfl)
    clear hn HAT
    go_wp2_with (first | ((with_reducible refine (HN.out _).mono ?_); rintro e w' ⟨rfl, rfl⟩) | ((with_reducible refine (HQ.out _ _ _ _).mono ?_); rintro e w' ⟨rfl, rfl⟩))
    obtain ⟨wa, hwa⟩ : ∃ wa, wa = wr := ⟨_, rfl⟩
    subst hwa
    go_loopw [4] (fun z wx => ∃ k : Nat, k ≤ i ∧ z = .int .i64 k ∧ NoNm sig i k ∧ Below w.heap.size w wx)
      (fun z _ => i - (intOf z).toNat)
    case atStart => exact ⟨0, Nat.zero_le _, rfl, fun j hj => by omega, HBE.out⟩
    obtain ⟨k, hk, rfl, hno, hbx⟩ := hrel
    have HNO := Lib.hid hno
    have HBX := Lib.hid hbx
    obtain ⟨b', o', c'', ev, j0, _, _⟩ := ct_at (HV.out _ hbx) hlt
    cases ev
    by_cases hki : k < i
    · obtain ⟨b', o', c'', ev, q0, _, _⟩ := ct_at (HV.out _ hbx) (show k < sig.length by omega)
      cases ev
      rw [← ctA_get hlt, ← HSS.out] at j0
      rw [← ctA_get (show k < sig.length by omega)] at q0
      clear hno hbx k0 k1 k2
      by_cases he : (ctA sig k).1 = s
      · have HFF := Lib.hid (HF.out (by rw [HAT2.out, noNm_any hki (by rw [← HSS.out]; exact decide_eq_true he)]; rfl))
        have hee := str_eq s
        rw [he] at q0
        clear he
        go_wp2_with fail
        go_quiet (fail)
        go_wp2_with fail
        go_ret
        exact ⟨by rw [HFF.out]; rfl, below_drewN' HBX.out _⟩
      have HN3 := Lib.hid (show NoNm sig i (k + 1) from fun j hj => by
        rcases Nat.lt_succ_iff_lt_or_eq.1 hj with h' | h'
        · exact HNO.out j h'
        rw [h', ← HSS.out]; exact decide_eq_false he)
      have hee := str_ne he
      clear he
      generalize (ctA sig k).1 = t at *
      go_wp2_with fail
      go_quiet (fail)
      go_wp2_with fail
      go_roundw
      case rel => exact ⟨k + 1, by omega, by go_num, HN3.out, below_drewN' HBX.out _⟩
      case measure => simp [intOf]; omega
    obtain rfl : k = i := by omega
    have HTT := Lib.hid (HN2.out (by rw [HAT2.out, noNm_all HNO.out]; rfl))
    clear hno hbx k0 k1 k2 j0
    go_wp2_with fail
    go_roundw
    case rel => exact ⟨k + 1, by omega, by go_num, HTT.out, HBX.out⟩
    case measure => simp [intOf]; omega
  obtain rfl : i = sig.length := by omega
  have HE := Lib.hid (show sigB sig = inB sig.length 1 6 from by unfold sigB; rw [allR_true HALL.out, Bool.and_true])
  clear hbel
  go_wp2_with ((with_reducible refine (l1In_any ..).mono ?_); rintro e w' ⟨rfl, rfl⟩)
  go_ret
  exact ⟨by rw [HE.out]; rfl, HBE.out⟩

end Go.Proofs.YtijkdpdmclkmlaaGreatDoor

namespace Go.Proofs.YtijkdpdmclkmlaaGreatDoor
open Go.RowKit Go.Sort

theorem same_below {P : Program} {f : FuncId} {args : Array Value} {w : World} {v : Value} (h : Calls P f args w fun e w' => e = .returned v ∧ w = w') : Calls P f args w fun e w' => e = .returned v ∧ Below w.heap.size w w' :=
  h.mono fun _ _ ⟨a, b⟩ => ⟨a, by subst b; exact Below.refl _ _⟩

/-- The six cells of a bigraph's struct. -/
abbrev gcells (g : Gr) (nv sv ov iv : Value) : Array Value := #[.int .i64 g.roots, nv, sv, .int .i64 g.edges, ov, iv]

def NoLk (g : Gr) (l : List Int) (k : Nat) : Prop := ∀ j, j < k → linkB g (l.getD j 0) = true

theorem l2Node_any (sig : List Ct) (g : Gr) (nv sv ov iv gv : Value) (i : Nat) (w : World) (hs : SmallG g) (hS : RSl RCt 3 w gv sig) (hsl : sig.length ≤ 1000) (hG : RGr w nv sv ov iv g) (hi : i < g.nodes.length) (hc : CtlOk sig g i)
    (h64 : -9223372036854775808 ≤ (nodA g i).2.1) :
    Calls Tryz.prog 205 #[gv, .agg #[.int .i64 g.roots, nv, sv, .int .i64 g.edges, ov, iv], .int .i64 i] w fun e w' => e = .returned (.bool (nodB sig g i)) ∧ Below w.heap.size w w' := by
  have hkn := hi
  obtain ⟨b, o, c, A, d, eN, k0, k1, k2, kL⟩ := nod_at hG.n hi
  rw [← nodA_get hi] at k0 k1 k2 kL
  obtain ⟨x, hX⟩ : ∃ x, x = nodA g i := ⟨_, rfl⟩
  have hll : x.2.2.length ≤ 1000 := by rw [hX, nodA_get hi]; exact hs.links _ (List.getElem_mem hi)
  have HAT := Lib.hid (show nodB sig g i = (inB x.1 0 ((sig.length : Int) - 1) && underB sig g x.2.1 i && ((x.2.2.length : Int) == portsA sig x.1) && allR x.2.2.length fun k => linkB g (x.2.2.getD k 0)) from by rw [hX]; rfl)
  rw [← hX] at k0 k1 k2 kL h64
  have hn := hs.nodes
  obtain ⟨AN, cN, AS, cS, AO, cO, AI, cI, eNV, rfl, rfl, rfl⟩ := hG.form
  obtain ⟨AG, cG, rfl, _⟩ := hS.form
  subst eN
  obtain ⟨w1, hw1, hb1, hs1, bx0, bx1⟩ := laid2 w (.cells (gcells g (.slice (some ⟨b, o, none⟩) g.nodes.length c) (.slice AS g.sites.length cS) (.slice AO g.outer.length cO) (.slice AI g.inner.length cI)) 31) (.cells #[.int .i64 x.1, .int .i64 x.2.1, .slice A x.2.2.length d] 88)
  have HG := Lib.hid (show ∀ W, Below w1.heap.size w1 W → RGr W _ _ _ _ g from fun W hb => (hG.below hb1).below hb)
  have HS := Lib.hid (show ∀ W, Below w1.heap.size w1 W → RSl RCt 3 W _ sig from fun W hb => (hS.below RCt_keep hb1).below RCt_keep hb)
  have HL := Lib.hid (show ∀ W, Below w1.heap.size w1 W → Cells W A (ints x.2.2) from fun W hb => (kL.below hb1).below hb)
  have HB1 := Lib.hid hb1
  have HX0 := Lib.hid bx0
  have HX1 := Lib.hid bx1
  have HW1 := Lib.hid hw1
  have p0 := cell_regrown (cell_of_row _ _ 0 _ _ _ bx0)
  have p1 := cell_regrown (cell_of_row _ _ 1 _ _ _ bx0)
  have p2 := cell_regrown (cell_of_row _ _ 2 _ _ _ bx0)
  have p3 := cell_regrown (cell_of_row _ _ 3 _ _ _ bx0)
  have p4 := cell_regrown (cell_of_row _ _ 4 _ _ _ bx0)
  have p5 := cell_regrown (cell_of_row _ _ 5 _ _ _ bx0)
  have q0 := cell_regrown (cell_of_row _ _ 0 _ _ _ bx1)
  have q1 := cell_regrown (cell_of_row _ _ 1 _ _ _ bx1)
  have q2 := cell_regrown (cell_of_row _ _ 2 _ _ _ bx1)
  have CI := Lib.hid (fun d os => Calls.regrown_of (same_below (l1In_any x.1 0 ((sig.length : Int) - 1) (grow (redrawn w1 d) os))))
  have CU := Lib.hid (fun d os => Calls.regrown_of (l2Under_any sig g _ _ _ _ _ x.2.1 i (grow (redrawn w1 d) os) hs (HS.out _ (below_regrown w1 d os)) hsl (HG.out _ (below_regrown w1 d os)) h64 (by omega) hc))
  have CL := Lib.hid (fun l W hb => l2Link_any g _ _ _ _ l W hs (HG.out W hb))
  have d0 : (0 : Int) ≤ (i : Int) := by omega
  have d1 : (i : Int) < (g.nodes.length : Int) := by omega
  have hwr := IntWalk.i64_in ((sig.length : Int) - 1) (by omega)
  have HIN := Lib.hid hi
  have hal : Below w.heap.size w (w.alloc (.cells #[.int .i64 g.roots, .slice (some ⟨b, o, none⟩) g.nodes.length c, .slice AS g.sites.length cS, .int .i64 g.edges, .slice AO g.outer.length cO, .slice AI g.inner.length cI] 31)) := (Below.refl _ _).alloc (Nat.le_refl _) _
  have k0 := cell_below hal k0 (lt_of_cell k0)
  have k1 := cell_below hal k1 (lt_of_cell k1)
  have k2 := cell_below hal k2 (lt_of_cell k2)
  clear hb1 bx0 bx1 hw1 hG hS hs kL hX eNV hc hi hal
  cases h1 : inB x.1 0 ((sig.length : Int) - 1)
  · have HFF := Lib.hid (show nodB sig g i = false from by rw [HAT.out, h1]; rfl)
    rw [h1] at CI
    clear h1
    go_enter Tryz.func205, Tryz.ntmps205
    go_wp2_with fail
    rw [← HW1.out]
    refine wp_region_quiet_below (by kernel_rfl) (by kernel_rfl) ?_
    repeat (go_big_quiet_step (first | exact CI.out _ _ | exact CU.out _ _))
    refine wpQuiet_nil ?_
    intro _ hw'
    obtain ⟨⟨dq, osq⟩, hw''⟩ := hw'
    subst hw''
    have hb := below_regrown w1 dq osq
    have HZ := Lib.hid (HB1.out.trans (hb.mono HB1.out.size))
    go_wp2_with fail
    go_ret
    exact ⟨by rw [HFF.out]; rfl, HZ.out⟩
  obtain ⟨z0, z1⟩ := inB_true h1
  obtain ⟨m, hm⟩ := Int.eq_ofNat_of_zero_le z0
  have hml : m < sig.length := by omega
  obtain ⟨b', o', c', eS, _, s1, _⟩ := ct_at (HS.out w1 (Below.refl _ _)) hml
  have HP := Lib.hid (show portsA sig x.1 = sig[m].2.1 from by unfold portsA; rw [hm, Int.toNat_natCast, ctA_get hml])
  rw [HP.out] at HAT
  rw [h1] at CI HAT
  clear h1 z0 z1 HP
  have s1 := cell_regrown s1
  cases eS
  generalize sig[m].2.1 = y at *
  have HM := Lib.hid hm
  rw [hm] at q0 k0 CI
  have d2 : (0 : Int) ≤ (m : Int) := by omega
  have d3 : (m : Int) < (sig.length : Int) := by omega
  cases h2 : underB sig g x.2.1 i
  · have HFF := Lib.hid (show nodB sig g i = false from by rw [HAT.out, h2]; rfl)
    rw [h2] at CU
    rw [HM.out] at HW1
    clear h2
    go_enter Tryz.func205, Tryz.ntmps205
    go_wp2_with fail
    rw [← HW1.out]
    refine wp_region_quiet_below (by kernel_rfl) (by kernel_rfl) ?_
    repeat (go_big_quiet_step (first | exact CI.out _ _ | exact CU.out _ _))
    refine wpQuiet_nil ?_
    intro _ hw'
    obtain ⟨⟨dq, osq⟩, hw''⟩ := hw'
    subst hw''
    have hb := below_regrown w1 dq osq
    have HZ := Lib.hid (HB1.out.trans (hb.mono HB1.out.size))
    go_wp2_with fail
    go_ret
    exact ⟨by rw [HFF.out]; rfl, HZ.out⟩
  rw [h2] at CU
  cases h3 : ((x.2.2.length : Int) == y)
  · have HFF := Lib.hid (show nodB sig g i = false from by rw [HAT.out, h2, h3]; rfl)
    have h3' : ((x.2.2.length : Int) != y) = true := by rw [bne, h3]; rfl
    rw [HM.out] at HW1
    clear h2
    go_enter Tryz.func205, Tryz.ntmps205
    go_wp2_with fail
    rw [← HW1.out]
    refine wp_region_quiet_below (by kernel_rfl) (by kernel_rfl) ?_
    repeat (go_big_quiet_step (first | exact CI.out _ _ | exact CU.out _ _))
    refine wpQuiet_nil ?_
    intro _ hw'
    obtain ⟨⟨dq, osq⟩, hw''⟩ := hw'
    subst hw''
    have hb := below_regrown w1 dq osq
    have HZ := Lib.hid (HB1.out.trans (hb.mono HB1.out.size))
    go_wp2_with fail
    go_ret
    exact ⟨by rw [HFF.out]; rfl, HZ.out⟩
  have HAT2 := Lib.hid (show nodB sig g i = allR x.2.2.length (fun k => linkB g (x.2.2.getD k 0)) from by rw [HAT.out, h2, h3]; rfl)
  have h3' : ((x.2.2.length : Int) != y) = false := by rw [bne, h3]; rfl
  rw [HM.out] at HW1 HX1
  clear h2 HAT
  go_enter Tryz.func205, Tryz.ntmps205
  go_wp2_with fail
  rw [← HW1.out]
  refine wp_region_quiet_below (by kernel_rfl) (by kernel_rfl) ?_
  repeat (go_big_quiet_step (first | exact CI.out _ _ | exact CU.out _ _))
  refine wpQuiet_nil ?_
  intro _ hw'
  obtain ⟨⟨dq, osq⟩, hw''⟩ := hw'
  subst hw''
  have hb := below_regrown w1 dq osq
  obtain ⟨wq, hwq⟩ : ∃ wq, wq = grow (redrawn w1 dq) osq := ⟨_, rfl⟩
  rw [← hwq] at hb ⊢
  have HZ := Lib.hid (HB1.out.trans (hb.mono HB1.out.size))
  have HBQ := Lib.hid hb
  clear hwq hb p0 p1 p2 p3 p4 p5 q0 q1 q2 s1 k0 k1 k2
  go_wp2_with fail
  go_loopw [8] (fun z wx => ∃ k : Nat, k ≤ x.2.2.length ∧ z = .int .i64 k ∧ NoLk g x.2.2 k ∧ Below w1.heap.size w1 wx)
    (fun z _ => x.2.2.length - (intOf z).toNat)
  case atStart => exact ⟨0, Nat.zero_le _, rfl, fun j hj => by omega, HBQ.out⟩
  obtain ⟨k, hk, rfl, hno, hbx⟩ := hrel
  have HNO := Lib.hid hno
  have HBX := Lib.hid hbx
  have HZX := Lib.hid (HB1.out.trans (hbx.mono HB1.out.size))
  have y0 := (hbx.block w.heap.size (by omega)).trans HX0.out
  have y1 := (hbx.block (w.heap.size + 1) (by omega)).trans HX1.out
  have t2 := cell_of_row _ _ 2 _ _ _ y1
  by_cases hkl : k < x.2.2.length
  · have p0 := cell_regrown (cell_of_row _ _ 0 _ _ _ y0)
    have p1 := cell_regrown (cell_of_row _ _ 1 _ _ _ y0)
    have p2 := cell_regrown (cell_of_row _ _ 2 _ _ _ y0)
    have p3 := cell_regrown (cell_of_row _ _ 3 _ _ _ y0)
    have p4 := cell_regrown (cell_of_row _ _ 4 _ _ _ y0)
    have p5 := cell_regrown (cell_of_row _ _ 5 _ _ _ y0)
    have q2 := cell_regrown t2
    obtain ⟨bl, ol, eA, kk⟩ := (HL.out wr hbx).int hkl
    have l0 := cell_regrown (kk k hkl)
    subst eA
    have CLk := Lib.hid (fun d os => Calls.regrown_of (CL.out (x.2.2.getD k 0) (grow (redrawn wr d) os) (hbx.trans ((below_regrown wr d os).mono hbx.size))))
    have HFA := Lib.hid (show linkB g (x.2.2.getD k 0) = false → nodB sig g i = false from fun h => by rw [HAT2.out]; exact allR_false (p := fun k => linkB g (x.2.2.getD k 0)) hkl h)
    have HNX := Lib.hid (show linkB g (x.2.2.getD k 0) = true → NoLk g x.2.2 (k + 1) from fun h => all_next (p := fun k => linkB g (x.2.2.getD k 0)) HNO.out h)
    have v0 : (0 : Int) ≤ (k : Int) := by omega
    have v1 : (k : Int) < (x.2.2.length : Int) := by omega
    clear kk hno hbx y0 y1
    generalize x.2.2.getD k 0 = l at *
    cases hl : linkB g l
    · have HFF := Lib.hid (HFA.out hl)
      rw [hl] at CLk
      clear hl
      go_wp2_with fail
      refine wp_region_quiet_below (by kernel_rfl) (by kernel_rfl) ?_
      repeat (go_big_quiet_step (exact CLk.out _ _))
      refine wpQuiet_nil ?_
      intro _ hw'
      obtain ⟨⟨dq2, osq2⟩, hw''⟩ := hw'
      subst hw''
      have hb2 := below_regrown wr dq2 osq2
      have HZ2 := Lib.hid (HZX.out.trans (hb2.mono HZX.out.size))
      go_wp2_with fail
      go_ret
      exact ⟨by rw [HFF.out]; rfl, HZ2.out⟩
    have HNN := Lib.hid (HNX.out hl)
    rw [hl] at CLk
    clear hl
    go_wp2_with fail
    refine wp_region_quiet_below (by kernel_rfl) (by kernel_rfl) ?_
    repeat (go_big_quiet_step (exact CLk.out _ _))
    refine wpQuiet_nil ?_
    intro _ hw'
    obtain ⟨⟨dq2, osq2⟩, hw''⟩ := hw'
    subst hw''
    have hb2 := below_regrown wr dq2 osq2
    have HZ2 := Lib.hid (HBX.out.trans (hb2.mono HBX.out.size))
    go_wp2_with fail
    go_roundw
    case rel => exact ⟨k + 1, by omega, by go_num, HNN.out, HZ2.out⟩
    case measure => simp [intOf]; omega
  obtain rfl : k = x.2.2.length := by omega
  have HTT := Lib.hid (show nodB sig g i = true from by rw [HAT2.out]; exact allR_true HNO.out)
  clear hno hbx y0 y1
  go_wp2_with fail
  go_ret
  exact ⟨by rw [HTT.out]; rfl, HZX.out⟩

end Go.Proofs.YtijkdpdmclkmlaaGreatDoor
