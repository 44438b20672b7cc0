/- Nodes: the reference's test walked. -/
import Derived.Test.YtijkdpdmclkmlaaGreatDoorProg
import Derived.Test.YtijkdpdmclkmlaaGreatDoorJ4
import Derived.Test.YtijkdpdmclkmlaaGreatDoorJ5
import Derived.Lib.QuietBelow
set_option linter.unusedSimpArgs false
set_option linter.unusedVariables false
namespace Go.Proofs.YtijkdpdmclkmlaaGreatDoor
open Go.RowKit Go.Sort

theorem same_below {P : Program} {f : FuncId} {args : Array Value} {w : World} {v : Value} (h : Calls P f args w fun e w' => e = .returned v ∧ w = w') : Calls P f args w fun e w' => e = .returned v ∧ Below w.heap.size w w' :=
  h.mono fun _ _ ⟨a, b⟩ => ⟨a, by subst b; exact Below.refl _ _⟩

/-- The six cells of a bigraph's struct. -/
abbrev gcells (g : Gr) (nv sv ov iv : Value) : Array Value := #[.int .i64 g.roots, nv, sv, .int .i64 g.edges, ov, iv]

def NoLk (g : Gr) (l : List Int) (k : Nat) : Prop := ∀ j, j < k → linkB g (l.getD j 0) = true

set_option maxRecDepth 100000 in
set_option maxHeartbeats 4000000 in
theorem l2Node_any (sig : List Ct) (g : Gr) (nv sv ov iv gv : Value) (i : Nat) (w : World) (hs : SmallG g) (hS : RSl RCt 3 w gv sig) (hsl : sig.length ≤ 1000) (hG : RGr w nv sv ov iv g) (hi : i < g.nodes.length) (hc : CtlOk sig g i)
    (h64 : -9223372036854775808 ≤ (nodA g i).2.1) :
    Calls Tryz.prog 205 #[gv, .agg #[.int .i64 g.roots, nv, sv, .int .i64 g.edges, ov, iv], .int .i64 i] w fun e w' => e = .returned (.bool (nodB sig g i)) ∧ Below w.heap.size w w' := by
  have hkn := hi
  obtain ⟨b, o, c, A, d, eN, k0, k1, k2, kL⟩ := nod_at hG.n hi
  rw [← nodA_get hi] at k0 k1 k2 kL
  obtain ⟨x, hX⟩ : ∃ x, x = nodA g i := ⟨_, rfl⟩
  have hll : x.2.2.length ≤ 1000 := by rw [hX, nodA_get hi]; exact hs.links _ (List.getElem_mem hi)
  have HAT := Lib.hid (show nodB sig g i = (inB x.1 0 ((sig.length : Int) - 1) && underB sig g x.2.1 i && ((x.2.2.length : Int) == portsA sig x.1) && allR x.2.2.length fun k => linkB g (x.2.2.getD k 0)) from by rw [hX]; rfl)
  rw [← hX] at k0 k1 k2 kL h64
  have hn := hs.nodes
  obtain ⟨AN, cN, AS, cS, AO, cO, AI, cI, eNV, rfl, rfl, rfl⟩ := hG.form
  obtain ⟨AG, cG, rfl, _⟩ := hS.form
  subst eN
  obtain ⟨w1, hw1⟩ : ∃ w1, w1 = (w.alloc (.cells (gcells g (.slice (some ⟨b, o, none⟩) g.nodes.length c) (.slice AS g.sites.length cS) (.slice AO g.outer.length cO) (.slice AI g.inner.length cI)) 31)).alloc (.cells #[.int .i64 x.1, .int .i64 x.2.1, .slice A x.2.2.length d] 88) := ⟨_, rfl⟩
  have hb1 : Below w.heap.size w w1 := by rw [hw1]; exact ((Below.refl _ _).alloc (Nat.le_refl _) _).alloc (by simp) _
  have hs1 : w1.heap.size = w.heap.size + 1 + 1 := by rw [hw1]; simp
  have bx0 : w1.heap[w.heap.size]? = some (.cells (gcells g (.slice (some ⟨b, o, none⟩) g.nodes.length c) (.slice AS g.sites.length cS) (.slice AO g.outer.length cO) (.slice AI g.inner.length cI)) 31) := by
    rw [hw1]; exact (heap_alloc_old _ _ (by simp)).trans (heap_alloc_new _ _)
  have bx1 : w1.heap[w.heap.size + 1]? = some (.cells #[.int .i64 x.1, .int .i64 x.2.1, .slice A x.2.2.length d] 88) := by
    have := heap_alloc_new (w.alloc (.cells (gcells g (.slice (some ⟨b, o, none⟩) g.nodes.length c) (.slice AS g.sites.length cS) (.slice AO g.outer.length cO) (.slice AI g.inner.length cI)) 31)) (.cells #[.int .i64 x.1, .int .i64 x.2.1, .slice A x.2.2.length d] 88)
    rw [World.size_alloc] at this
    rw [hw1]; exact this
  have HG := Lib.hid (show ∀ W, Below w1.heap.size w1 W → RGr W _ _ _ _ g from fun W hb => (hG.below hb1).below hb)
  have HS := Lib.hid (show ∀ W, Below w1.heap.size w1 W → RSl RCt 3 W _ sig from fun W hb => (hS.below RCt_keep hb1).below RCt_keep hb)
  have HL := Lib.hid (show ∀ W, Below w1.heap.size w1 W → Cells W A (ints x.2.2) from fun W hb => (kL.below hb1).below hb)
  have HB1 := Lib.hid hb1
  have HX0 := Lib.hid bx0
  have HX1 := Lib.hid bx1
  have HW1 := Lib.hid hw1
  have p0 := cell_regrown (cell_of_row _ _ 0 _ _ _ bx0)
  have p1 := cell_regrown (cell_of_row _ _ 1 _ _ _ bx0)
  have p2 := cell_regrown (cell_of_row _ _ 2 _ _ _ bx0)
  have p3 := cell_regrown (cell_of_row _ _ 3 _ _ _ bx0)
  have p4 := cell_regrown (cell_of_row _ _ 4 _ _ _ bx0)
  have p5 := cell_regrown (cell_of_row _ _ 5 _ _ _ bx0)
  have q0 := cell_regrown (cell_of_row _ _ 0 _ _ _ bx1)
  have q1 := cell_regrown (cell_of_row _ _ 1 _ _ _ bx1)
  have q2 := cell_regrown (cell_of_row _ _ 2 _ _ _ bx1)
  have CI := Lib.hid (fun d os => Calls.regrown_of (same_below (l1In_any x.1 0 ((sig.length : Int) - 1) (grow (redrawn w1 d) os))))
  have CU := Lib.hid (fun d os => Calls.regrown_of (l2Under_any sig g _ _ _ _ _ x.2.1 i (grow (redrawn w1 d) os) hs (HS.out _ (below_regrown w1 d os)) hsl (HG.out _ (below_regrown w1 d os)) h64 (by omega) hc))
  have CL := Lib.hid (fun l W hb => l2Link_any g _ _ _ _ l W hs (HG.out W hb))
  have d0 : (0 : Int) ≤ (i : Int) := by omega
  have d1 : (i : Int) < (g.nodes.length : Int) := by omega
  have hwr := IntWalk.i64_in ((sig.length : Int) - 1) (by omega)
  have HIN := Lib.hid hi
  have hal : Below w.heap.size w (w.alloc (.cells #[.int .i64 g.roots, .slice (some ⟨b, o, none⟩) g.nodes.length c, .slice AS g.sites.length cS, .int .i64 g.edges, .slice AO g.outer.length cO, .slice AI g.inner.length cI] 31)) := (Below.refl _ _).alloc (Nat.le_refl _) _
  have k0 := cell_below hal k0 (lt_of_cell k0)
  have k1 := cell_below hal k1 (lt_of_cell k1)
  have k2 := cell_below hal k2 (lt_of_cell k2)
  clear hb1 bx0 bx1 hw1 hG hS hs kL hX eNV hc hi hal
  cases h1 : inB x.1 0 ((sig.length : Int) - 1)
  · have HFF := Lib.hid (show nodB sig g i = false from by rw [HAT.out, h1]; rfl)
    rw [h1] at CI
    clear h1
    go_enter Tryz.func205, Tryz.ntmps205
    go_wp2_with fail
    rw [← HW1.out]
    refine wp_region_quiet_below (by kernel_rfl) (by kernel_rfl) ?_
    repeat (go_big_quiet_step (first | exact CI.out _ _ | exact CU.out _ _))
    refine wpQuiet_nil ?_
    intro _ hw'
    obtain ⟨⟨dq, osq⟩, hw''⟩ := hw'
    subst hw''
    have hb := below_regrown w1 dq osq
    have HZ := Lib.hid (HB1.out.trans (hb.mono HB1.out.size))
    go_wp2_with fail
    go_ret
    exact ⟨by rw [HFF.out]; rfl, HZ.out⟩
  · obtain ⟨z0, z1⟩ := inB_true h1
    obtain ⟨m, hm⟩ := Int.eq_ofNat_of_zero_le z0
    have hml : m < sig.length := by omega
    obtain ⟨b', o', c', eS, _, s1, _⟩ := ct_at (HS.out w1 (Below.refl _ _)) hml
    have HP := Lib.hid (show portsA sig x.1 = sig[m].2.1 from by unfold portsA; rw [hm, Int.toNat_natCast, ctA_get hml])
    rw [HP.out] at HAT
    rw [h1] at CI HAT
    clear h1 z0 z1 HP
    have s1 := cell_regrown s1
    cases eS
    generalize sig[m].2.1 = y at *
    have HM := Lib.hid hm
    rw [hm] at q0 k0 CI
    have d2 : (0 : Int) ≤ (m : Int) := by omega
    have d3 : (m : Int) < (sig.length : Int) := by omega
    cases h2 : underB sig g x.2.1 i
    · have HFF := Lib.hid (show nodB sig g i = false from by rw [HAT.out, h2]; rfl)
      rw [h2] at CU
      rw [HM.out] at HW1
      clear h2
      go_enter Tryz.func205, Tryz.ntmps205
      go_wp2_with fail
      rw [← HW1.out]
      refine wp_region_quiet_below (by kernel_rfl) (by kernel_rfl) ?_
      repeat (go_big_quiet_step (first | exact CI.out _ _ | exact CU.out _ _))
      refine wpQuiet_nil ?_
      intro _ hw'
      obtain ⟨⟨dq, osq⟩, hw''⟩ := hw'
      subst hw''
      have hb := below_regrown w1 dq osq
      have HZ := Lib.hid (HB1.out.trans (hb.mono HB1.out.size))
      go_wp2_with fail
      go_ret
      exact ⟨by rw [HFF.out]; rfl, HZ.out⟩
    · rw [h2] at CU
      cases h3 : ((x.2.2.length : Int) == y)
      · have HFF := Lib.hid (show nodB sig g i = false from by rw [HAT.out, h2, h3]; rfl)
        have h3' : ((x.2.2.length : Int) != y) = true := by rw [bne, h3]; rfl
        rw [HM.out] at HW1
        clear h2
        go_enter Tryz.func205, Tryz.ntmps205
        go_wp2_with fail
        rw [← HW1.out]
        refine wp_region_quiet_below (by kernel_rfl) (by kernel_rfl) ?_
        repeat (go_big_quiet_step (first | exact CI.out _ _ | exact CU.out _ _))
        refine wpQuiet_nil ?_
        intro _ hw'
        obtain ⟨⟨dq, osq⟩, hw''⟩ := hw'
        subst hw''
        have hb := below_regrown w1 dq osq
        have HZ := Lib.hid (HB1.out.trans (hb.mono HB1.out.size))
        go_wp2_with fail
        go_ret
        exact ⟨by rw [HFF.out]; rfl, HZ.out⟩
      · have HAT2 := Lib.hid (show nodB sig g i = allR x.2.2.length (fun k => linkB g (x.2.2.getD k 0)) from by rw [HAT.out, h2, h3]; rfl)
        have h3' : ((x.2.2.length : Int) != y) = false := by rw [bne, h3]; rfl
        rw [HM.out] at HW1 HX1
        clear h2 HAT
        go_enter Tryz.func205, Tryz.ntmps205
        go_wp2_with fail
        rw [← HW1.out]
        refine wp_region_quiet_below (by kernel_rfl) (by kernel_rfl) ?_
        repeat (go_big_quiet_step (first | exact CI.out _ _ | exact CU.out _ _))
        refine wpQuiet_nil ?_
        intro _ hw'
        obtain ⟨⟨dq, osq⟩, hw''⟩ := hw'
        subst hw''
        have hb := below_regrown w1 dq osq
        obtain ⟨wq, hwq⟩ : ∃ wq, wq = grow (redrawn w1 dq) osq := ⟨_, rfl⟩
        rw [← hwq] at hb ⊢
        have HZ := Lib.hid (HB1.out.trans (hb.mono HB1.out.size))
        have HBQ := Lib.hid hb
        clear hwq hb p0 p1 p2 p3 p4 p5 q0 q1 q2 s1 k0 k1 k2
        go_wp2_with fail
        go_loopw [8] (fun z wx => ∃ k : Nat, k ≤ x.2.2.length ∧ z = .int .i64 k ∧ NoLk g x.2.2 k ∧ Below w1.heap.size w1 wx)
          (fun z _ => x.2.2.length - (intOf z).toNat)
        case atStart => exact ⟨0, Nat.zero_le _, rfl, fun j hj => by omega, HBQ.out⟩
        case round =>
          obtain ⟨k, hk, rfl, hno, hbx⟩ := hrel
          have HNO := Lib.hid hno
          have HBX := Lib.hid hbx
          have HZX := Lib.hid (HB1.out.trans (hbx.mono HB1.out.size))
          have y0 := (hbx.block w.heap.size (by omega)).trans HX0.out
          have y1 := (hbx.block (w.heap.size + 1) (by omega)).trans HX1.out
          have t2 := cell_of_row _ _ 2 _ _ _ y1
          by_cases hkl : k < x.2.2.length
          · have p0 := cell_regrown (cell_of_row _ _ 0 _ _ _ y0)
            have p1 := cell_regrown (cell_of_row _ _ 1 _ _ _ y0)
            have p2 := cell_regrown (cell_of_row _ _ 2 _ _ _ y0)
            have p3 := cell_regrown (cell_of_row _ _ 3 _ _ _ y0)
            have p4 := cell_regrown (cell_of_row _ _ 4 _ _ _ y0)
            have p5 := cell_regrown (cell_of_row _ _ 5 _ _ _ y0)
            have q2 := cell_regrown t2
            obtain ⟨bl, ol, eA, kk⟩ := (HL.out wr hbx).int hkl
            have l0 := cell_regrown (kk k hkl)
            subst eA
            have CLk := Lib.hid (fun d os => Calls.regrown_of (CL.out (x.2.2.getD k 0) (grow (redrawn wr d) os) (hbx.trans ((below_regrown wr d os).mono hbx.size))))
            have HFA := Lib.hid (show linkB g (x.2.2.getD k 0) = false → nodB sig g i = false from fun h => by rw [HAT2.out]; exact allR_false (p := fun k => linkB g (x.2.2.getD k 0)) hkl h)
            have HNX := Lib.hid (show linkB g (x.2.2.getD k 0) = true → NoLk g x.2.2 (k + 1) from fun h => all_next (p := fun k => linkB g (x.2.2.getD k 0)) HNO.out h)
            have v0 : (0 : Int) ≤ (k : Int) := by omega
            have v1 : (k : Int) < (x.2.2.length : Int) := by omega
            clear kk hno hbx y0 y1
            generalize x.2.2.getD k 0 = l at *
            cases hl : linkB g l
            · have HFF := Lib.hid (HFA.out hl)
              rw [hl] at CLk
              clear hl
              go_wp2_with fail
              refine wp_region_quiet_below (by kernel_rfl) (by kernel_rfl) ?_
              repeat (go_big_quiet_step (exact CLk.out _ _))
              refine wpQuiet_nil ?_
              intro _ hw'
              obtain ⟨⟨dq2, osq2⟩, hw''⟩ := hw'
              subst hw''
              have hb2 := below_regrown wr dq2 osq2
              have HZ2 := Lib.hid (HZX.out.trans (hb2.mono HZX.out.size))
              go_wp2_with fail
              go_ret
              exact ⟨by rw [HFF.out]; rfl, HZ2.out⟩
            · have HNN := Lib.hid (HNX.out hl)
              rw [hl] at CLk
              clear hl
              go_wp2_with fail
              refine wp_region_quiet_below (by kernel_rfl) (by kernel_rfl) ?_
              repeat (go_big_quiet_step (exact CLk.out _ _))
              refine wpQuiet_nil ?_
              intro _ hw'
              obtain ⟨⟨dq2, osq2⟩, hw''⟩ := hw'
              subst hw''
              have hb2 := below_regrown wr dq2 osq2
              have HZ2 := Lib.hid (HBX.out.trans (hb2.mono HBX.out.size))
              go_wp2_with fail
              go_roundw
              case rel => exact ⟨k + 1, by omega, by go_num, HNN.out, HZ2.out⟩
              case measure => simp [intOf]; omega
          · obtain rfl : k = x.2.2.length := by omega
            have HTT := Lib.hid (show nodB sig g i = true from by rw [HAT2.out]; exact allR_true HNO.out)
            clear hno hbx y0 y1
            go_wp2_with fail
            go_ret
            exact ⟨by rw [HTT.out]; rfl, HZX.out⟩

end Go.Proofs.YtijkdpdmclkmlaaGreatDoor
