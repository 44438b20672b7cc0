/- The laws' helper at equal bigraphs: rSame: walked. -/
import Derived.Test.YtijkdpdmclkmlaaGreatDoorProg
import Derived.Test.YtijkdpdmclkmlaaGreatDoorJ0
import Derived.Test.YtijkdpdmclkmlaaGreatDoorJ1
import Derived.Test.YtijkdpdmclkmlaaGreatDoorJ31
import Derived.Test.YtijkdpdmclkmlaaGreatDoorJ16
import Derived.Test.YtijkdpdmclkmlaaGreatDoorJ30
import Derived.BigQuiet
set_option linter.unusedSimpArgs false
set_option linter.unusedVariables false
set_option maxRecDepth 100000
set_option maxHeartbeats 16000000
namespace Go.Proofs.YtijkdpdmclkmlaaGreatDoor
open Go.RowKit
theorem rSame_same (g : Gr) (nva sva ova iva nvb svb ovb ivb : Value) (w : World) (hs : SmallG g) (hA : RGr w nva sva ova iva g) (hB : RGr w nvb svb ovb ivb g) :
    Calls Tryz.prog 53 #[.agg #[.int .i64 g.roots, nva, sva, .int .i64 g.edges, ova, iva], .agg #[.int .i64 g.roots, nvb, svb, .int .i64 g.edges, ovb, ivb]] w fun e w' => e = .returned (.bool true) ∧ Below w.heap.size w w' := by
  have HGA := Lib.hid (show ∀ W, Below w.heap.size w W → RGr W nva sva ova iva g from fun W hb => hA.below hb)
  have HGB := Lib.hid (show ∀ W, Below w.heap.size w W → RGr W nvb svb ovb ivb g from fun W hb => hB.below hb)
  have HSM := Lib.hid hs
  have hnl := hs.nodes
  have hsl := hs.sites
  have hol := hs.outer
  have hil := hs.inner
  have HLL := Lib.hid (show ∀ x ∈ g.nodes, x.2.2.length ≤ 1000 from hs.links)
  obtain ⟨ANa, cNa, ASa, cSa, AOa, cOa, AIa, cIa, rfl, rfl, rfl, rfl⟩ := hA.form
  obtain ⟨ANb, cNb, ASb, cSb, AOb, cOb, AIb, cIb, rfl, rfl, rfl, rfl⟩ := hB.form
  obtain ⟨w0, hw0, hb0, hs0, bxa0, bxb0⟩ := laid2 w (.cells #[.int .i64 g.roots, .slice ANa g.nodes.length cNa, .slice ASa g.sites.length cSa, .int .i64 g.edges, .slice AOa g.outer.length cOa, .slice AIa g.inner.length cIa] 31) (.cells #[.int .i64 g.roots, .slice ANb g.nodes.length cNb, .slice ASb g.sites.length cSb, .int .i64 g.edges, .slice AOb g.outer.length cOb, .slice AIb g.inner.length cIb] 31)
  have HXA := Lib.hid (keepB bxa0)
  have HXB := Lib.hid (keepB bxb0)
  have HB0 := Lib.hid hb0
  have HW0 := Lib.hid hw0
  have HZ := Lib.hid (Below.refl w0.heap.size w0)
  have q0 : (g.roots != g.roots) = false := bne_self_eq_false _
  have q1 : (g.edges != g.edges) = false := bne_self_eq_false _
  have q2 : ((g.nodes.length : Int) != (g.nodes.length : Int)) = false := bne_self_eq_false _
  have q3 : ((g.inner.length : Int) != (g.inner.length : Int)) = false := bne_self_eq_false _
  have HCI := Lib.hid (show ∀ W, Below w.heap.size w W → Calls Tryz.prog 133 #[.slice ASa g.sites.length cSa, .slice ASb g.sites.length cSb] W (fun e w' => e = .returned (.bool true) ∧ Below W.heap.size W w') from fun W hb => by
    obtain ⟨A1, c1, e1, h1⟩ := (HGA.out W hb).s
    obtain ⟨A2, c2, e2, h2⟩ := (HGB.out W hb).s
    cases e1
    cases e2
    have h := rInts_any ASa ASb cSa cSb g.sites g.sites W (by omega) (by omega) h1 h2
    rw [show sameI g.sites g.sites = true from sameI_self _] at h
    exact h)
  have HCT := Lib.hid (show ∀ W, Below w.heap.size w W → Calls Tryz.prog 134 #[.slice AOa g.outer.length cOa, .slice AOb g.outer.length cOb] W (fun e w' => e = .returned (.bool true) ∧ Below W.heap.size W w') from fun W hb => by
    obtain ⟨A1, c1, e1, h1⟩ := (HGA.out W hb).o
    obtain ⟨A2, c2, e2, h2⟩ := (HGB.out W hb).o
    cases e1
    cases e2
    exact rTexts_same AOa AOb cOa cOb g.outer W (by omega) h1 h2)
  obtain ⟨a0, a1, a2, a3, a4, a5⟩ := row6 (HXA.out w0 HZ.out)
  obtain ⟨b0, b1, b2, b3, b4, b5⟩ := row6 (HXB.out w0 HZ.out)
  rw [hw0] at a0 a1 a2 a3 a4 a5 b0 b1 b2 b3 b4 b5
  clear hA hB hs hb0 hs0 bxa0 bxb0 hw0
  go_enter Tryz.func53, Tryz.ntmps53
  go_wp2_with fail
  rw [← HW0.out]
  (with_reducible refine (HCI.out w0 HB0.out).mono ?_)
  rintro e w1 ⟨rfl, hb⟩
  have HZ1 := Lib.hid (HZ.out.trans (hb.mono HZ.out.size))
  clear a0 a1 a2 a3 a4 a5 b0 b1 b2 b3 b4 b5
  obtain ⟨a0, a1, a2, a3, a4, a5⟩ := row6 (HXA.out w1 HZ1.out)
  obtain ⟨b0, b1, b2, b3, b4, b5⟩ := row6 (HXB.out w1 HZ1.out)
  clear hb
  go_wp2_with fail
  (with_reducible refine (HCT.out w1 (HB0.out.trans (HZ1.out.mono HB0.out.size))).mono ?_)
  rintro e w2 ⟨rfl, hb⟩
  have HZ2 := Lib.hid (HZ1.out.trans (hb.mono HZ1.out.size))
  clear a0 a1 a2 a3 a4 a5 b0 b1 b2 b3 b4 b5
  obtain ⟨a0, a1, a2, a3, a4, a5⟩ := row6 (HXA.out w2 HZ2.out)
  obtain ⟨b0, b1, b2, b3, b4, b5⟩ := row6 (HXB.out w2 HZ2.out)
  clear hb
  go_wp2_with fail
  clear a0 a1 a2 a3 a4 a5 b0 b1 b2 b3 b4 b5
  go_loopw [5] (fun i wr => ∃ k : Nat, k ≤ g.nodes.length ∧ i = .int .i64 k ∧ Below w0.heap.size w0 wr)
    (fun i _ => g.nodes.length - (intOf i).toNat)
  case atStart => exact ⟨0, Nat.zero_le _, rfl, HZ2.out⟩
  obtain ⟨k, hk, rfl, hb⟩ := hrel
  have HZW := Lib.hid hb
  by_cases hlt : k < g.nodes.length
  · obtain ⟨ba, oa, ca, ALa, dLa, ea, _, _, _, _⟩ := nod_at (HGA.out wr (HB0.out.trans (hb.mono HB0.out.size))).n hlt
    obtain ⟨bb, ob, cb, ALb, dLb, eb, _, _, _, _⟩ := nod_at (HGB.out wr (HB0.out.trans (hb.mono HB0.out.size))).n hlt
    cases ea
    cases eb
    have HNA := Lib.hid (show ∀ W, Below w0.heap.size w0 W → ∃ A d, W.cell? ⟨ba, oa + k * 3, none⟩ = some (.int .i64 g.nodes[k].1) ∧ W.cell? ⟨ba, oa + k * 3 + 1, none⟩ = some (.int .i64 g.nodes[k].2.1) ∧ W.cell? ⟨ba, oa + k * 3 + 2, none⟩ = some (.slice A g.nodes[k].2.2.length d) ∧ Cells W A (ints g.nodes[k].2.2) from fun W hb => by
      obtain ⟨b1, o1, c1, A1, d1, e1, h1⟩ := nod_at (HGA.out W (HB0.out.trans (hb.mono HB0.out.size))).n hlt
      cases e1
      exact ⟨A1, d1, h1⟩)
    have HNB := Lib.hid (show ∀ W, Below w0.heap.size w0 W → ∃ A d, W.cell? ⟨bb, ob + k * 3, none⟩ = some (.int .i64 g.nodes[k].1) ∧ W.cell? ⟨bb, ob + k * 3 + 1, none⟩ = some (.int .i64 g.nodes[k].2.1) ∧ W.cell? ⟨bb, ob + k * 3 + 2, none⟩ = some (.slice A g.nodes[k].2.2.length d) ∧ Cells W A (ints g.nodes[k].2.2) from fun W hb => by
      obtain ⟨b1, o1, c1, A1, d1, e1, h1⟩ := nod_at (HGB.out W (HB0.out.trans (hb.mono HB0.out.size))).n hlt
      cases e1
      exact ⟨A1, d1, h1⟩)
    have hll := HLL.out _ (List.getElem_mem hlt)
    obtain ⟨x, hx⟩ : ∃ x, x = g.nodes[k] := ⟨_, rfl⟩
    rw [← hx] at HNA HNB hll
    obtain ⟨ct, pa, lk⟩ := x
    replace hll : lk.length ≤ 1000 := hll
    have u0 : (ct != ct) = false := bne_self_eq_false _
    have u1 : (pa != pa) = false := bne_self_eq_false _
    obtain ⟨a0, a1, a2, a3, a4, a5⟩ := row6 (HXA.out wr hb)
    obtain ⟨b0, b1, b2, b3, b4, b5⟩ := row6 (HXB.out wr hb)
    clear hb hx
    have i0 : (0 : Int) ≤ (k : Int) := by omega
    have i1 : (k : Int) < (g.nodes.length : Int) := by omega
    go_wp2_with fail
    clear a0 a1 a2 a3 a4 a5 b0 b1 b2 b3 b4 b5
    refine wp_region_vals (by kernel_rfl) [some 60, some 61, some 62, some 63, some 64, some 65, some 66, some 67, some 68, some 69, some 70, some 71, some 72, some 73, some 74, some 75, some 76, some 77, some 78, some 79, some 80, some 81, some 82, some 83, some 84, some 85, some 86, some 87, some 88, some 89, some 90, some 91, some 92, some 93, some 94, some 95, some 96, some 97, some 98, some 99, some 100, some 101, some 102, some 103] (fun q v W => match q with | 0 => v = .pointer (some ⟨w.heap.size, 1, none⟩) | 1 => v = .slice (some ⟨ba, oa, none⟩) g.nodes.length cNa | 2 => v = .int .i64 (k : Int) | 3 => v = .pointer (some ⟨ba, oa + k * 3, none⟩) | 4 => v = .pointer (some ⟨ba, oa + k * 3, none⟩) | 5 => v = .int .i64 ct | 6 => v = .pointer (some ⟨w.heap.size + 1, 1, none⟩) | 7 => v = .slice (some ⟨bb, ob, none⟩) g.nodes.length cNb | 8 => v = .int .i64 (k : Int) | 9 => v = .pointer (some ⟨bb, ob + k * 3, none⟩) | 10 => v = .pointer (some ⟨bb, ob + k * 3, none⟩) | 11 => v = .int .i64 ct | 12 => v = .bool false | 13 => v = .bool false | 14 => v = .pointer (some ⟨w.heap.size, 1, none⟩) | 15 => v = .slice (some ⟨ba, oa, none⟩) g.nodes.length cNa | 16 => v = .int .i64 (k : Int) | 17 => v = .pointer (some ⟨ba, oa + k * 3, none⟩) | 18 => v = .pointer (some ⟨ba, oa + k * 3 + 1, none⟩) | 19 => v = .int .i64 pa | 20 => v = .pointer (some ⟨w.heap.size + 1, 1, none⟩) | 21 => v = .slice (some ⟨bb, ob, none⟩) g.nodes.length cNb | 22 => v = .int .i64 (k : Int) | 23 => v = .pointer (some ⟨bb, ob + k * 3, none⟩) | 24 => v = .pointer (some ⟨bb, ob + k * 3 + 1, none⟩) | 25 => v = .int .i64 pa | 26 => v = .bool false | 27 => v = .bool false | 28 => v = .bool false | 29 => v = .pointer (some ⟨w.heap.size, 1, none⟩) | 30 => v = .slice (some ⟨ba, oa, none⟩) g.nodes.length cNa | 31 => v = .int .i64 (k : Int) | 32 => v = .pointer (some ⟨ba, oa + k * 3, none⟩) | 33 => v = .pointer (some ⟨ba, oa + k * 3 + 2, none⟩) | 34 => ∃ Ax dx, v = .slice Ax lk.length dx ∧ Cells W Ax (ints lk) | 35 => v = .pointer (some ⟨w.heap.size + 1, 1, none⟩) | 36 => v = .slice (some ⟨bb, ob, none⟩) g.nodes.length cNb | 37 => v = .int .i64 (k : Int) | 38 => v = .pointer (some ⟨bb, ob + k * 3, none⟩) | 39 => v = .pointer (some ⟨bb, ob + k * 3 + 2, none⟩) | 40 => ∃ Ay dy, v = .slice Ay lk.length dy ∧ Cells W Ay (ints lk) | 41 => v = .bool true | 42 => v = .bool false | 43 => v = .bool false | _ => True) (by kernel_rfl) (by kernel_rfl) ?m1o ?s1t ?f1i
    case m1o =>
      intro q v W W' hb h
      match q, h with
      | 0, h | 1, h | 2, h | 3, h | 4, h | 5, h | 6, h | 7, h | 8, h | 9, h | 10, h | 11, h | 12, h | 13, h | 14, h | 15, h | 16, h | 17, h | 18, h | 19, h | 20, h | 21, h | 22, h | 23, h | 24, h | 25, h | 26, h | 27, h | 28, h | 29, h | 30, h | 31, h | 32, h | 33, h | 35, h | 36, h | 37, h | 38, h | 39, h | 41, h | 42, h | 43, h => exact h
      | 34, h | 40, h => exact (by obtain ⟨A, d, e, h1⟩ := h; exact ⟨A, d, e, h1.below hb⟩)
      | q + 44, _ => trivial
    case s1t =>
      intro L act W q oo hJ ho hd K3 hK3
      match q, ho with
      | 0, ho =>
        cases ho
        have hbW := hJ.bel
        have a2 : act.tmps[2]? = some _ := hJ.out 2 (by decide)
        clear hJ hd
        go_simp
        exact hK3 _ _ (Below.refl _ _) rfl
      | 1, ho =>
        cases ho
        simp [Region.binds] at hd
        have hbW := hJ.bel
        have v0 := hJ.val (by simp [hd] : L 0 = true) rfl fun _ h => h
        clear hJ hd
        have a1 := (row6 (HXA.out W (HZW.out.trans (hbW.mono HZW.out.size)))).2.1
        go_simp
        exact hK3 _ _ (Below.refl _ _) rfl
      | 2, ho | 8, ho =>
        cases ho
        have hbW := hJ.bel
        have a5 : act.tmps[5]? = some _ := hJ.out 5 (by decide)
        clear hJ hd
        go_simp
        exact hK3 _ _ (Below.refl _ _) rfl
      | 3, ho =>
        cases ho
        simp [Region.binds] at hd
        have hbW := hJ.bel
        have v1 := hJ.val (by simp [hd] : L 1 = true) rfl fun _ h => h
        have v2 := hJ.val (by simp [hd] : L 2 = true) rfl fun _ h => h
        clear hJ hd
        go_simp
        exact hK3 _ _ (Below.refl _ _) rfl
      | 4, ho =>
        cases ho
        simp [Region.binds] at hd
        have hbW := hJ.bel
        have v3 := hJ.val (by simp [hd] : L 3 = true) rfl fun _ h => h
        clear hJ hd
        go_simp
        exact hK3 _ _ (Below.refl _ _) rfl
      | 5, ho =>
        cases ho
        simp [Region.binds] at hd
        have hbW := hJ.bel
        have v4 := hJ.val (by simp [hd] : L 4 = true) rfl fun _ h => h
        clear hJ hd
        obtain ⟨A2, d2, c0, c1, c2, hA2⟩ := HNA.out W (HZW.out.trans (hbW.mono HZW.out.size))
        replace c0 : World.cell? W ⟨ba, oa + k * 3, none⟩ = some (.int .i64 ct) := c0
        replace c1 : World.cell? W ⟨ba, oa + k * 3 + 1, none⟩ = some (.int .i64 pa) := c1
        replace c2 : World.cell? W ⟨ba, oa + k * 3 + 2, none⟩ = some (.slice A2 lk.length d2) := c2
        go_simp
        exact hK3 _ _ (Below.refl _ _) rfl
      | 6, ho =>
        cases ho
        have hbW := hJ.bel
        have a3 : act.tmps[3]? = some _ := hJ.out 3 (by decide)
        clear hJ hd
        go_simp
        exact hK3 _ _ (Below.refl _ _) rfl
      | 7, ho =>
        cases ho
        simp [Region.binds] at hd
        have hbW := hJ.bel
        have v6 := hJ.val (by simp [hd] : L 6 = true) rfl fun _ h => h
        clear hJ hd
        have b1 := (row6 (HXB.out W (HZW.out.trans (hbW.mono HZW.out.size)))).2.1
        go_simp
        exact hK3 _ _ (Below.refl _ _) rfl
      | 9, ho =>
        cases ho
        simp [Region.binds] at hd
        have hbW := hJ.bel
        have v7 := hJ.val (by simp [hd] : L 7 = true) rfl fun _ h => h
        have v8 := hJ.val (by simp [hd] : L 8 = true) rfl fun _ h => h
        clear hJ hd
        go_simp
        exact hK3 _ _ (Below.refl _ _) rfl
      | 10, ho =>
        cases ho
        simp [Region.binds] at hd
        have hbW := hJ.bel
        have v9 := hJ.val (by simp [hd] : L 9 = true) rfl fun _ h => h
        clear hJ hd
        go_simp
        exact hK3 _ _ (Below.refl _ _) rfl
      | 11, ho =>
        cases ho
        simp [Region.binds] at hd
        have hbW := hJ.bel
        have v10 := hJ.val (by simp [hd] : L 10 = true) rfl fun _ h => h
        clear hJ hd
        obtain ⟨A2, d2, c0, c1, c2, hA2⟩ := HNB.out W (HZW.out.trans (hbW.mono HZW.out.size))
        replace c0 : World.cell? W ⟨bb, ob + k * 3, none⟩ = some (.int .i64 ct) := c0
        replace c1 : World.cell? W ⟨bb, ob + k * 3 + 1, none⟩ = some (.int .i64 pa) := c1
        replace c2 : World.cell? W ⟨bb, ob + k * 3 + 2, none⟩ = some (.slice A2 lk.length d2) := c2
        go_simp
        exact hK3 _ _ (Below.refl _ _) rfl
      | 12, ho =>
        cases ho
        simp [Region.binds] at hd
        have hbW := hJ.bel
        have v5 := hJ.val (by simp [hd] : L 5 = true) rfl fun _ h => h
        have v11 := hJ.val (by simp [hd] : L 11 = true) rfl fun _ h => h
        clear hJ hd
        go_simp
        exact hK3 _ _ (Below.refl _ _) rfl
      | 13, ho =>
        cases ho
        simp [Region.binds] at hd
        have hbW := hJ.bel
        have v12 := hJ.val (by simp [hd] : L 12 = true) rfl fun _ h => h
        clear hJ hd
        go_simp
        exact hK3 _ _ (Below.refl _ _) rfl
      | 14, ho =>
        cases ho
        simp [Region.binds] at hd
        have hbW := hJ.bel
        have a2 : act.tmps[2]? = some _ := hJ.out 2 (by decide)
        have v13 := hJ.val (by simp [hd] : L 13 = true) rfl fun _ h => h
        clear hJ hd
        go_simp
        exact hK3 _ _ (Below.refl _ _) rfl
      | 15, ho =>
        cases ho
        simp [Region.binds] at hd
        have hbW := hJ.bel
        have v13 := hJ.val (by simp [hd] : L 13 = true) rfl fun _ h => h
        have v14 := hJ.val (by simp [hd] : L 14 = true) rfl fun _ h => h
        clear hJ hd
        have a1 := (row6 (HXA.out W (HZW.out.trans (hbW.mono HZW.out.size)))).2.1
        go_simp
        exact hK3 _ _ (Below.refl _ _) rfl
      | 16, ho | 22, ho =>
        cases ho
        simp [Region.binds] at hd
        have hbW := hJ.bel
        have a5 : act.tmps[5]? = some _ := hJ.out 5 (by decide)
        have v13 := hJ.val (by simp [hd] : L 13 = true) rfl fun _ h => h
        clear hJ hd
        go_simp
        exact hK3 _ _ (Below.refl _ _) rfl
      | 17, ho =>
        cases ho
        simp [Region.binds] at hd
        have hbW := hJ.bel
        have v13 := hJ.val (by simp [hd] : L 13 = true) rfl fun _ h => h
        have v15 := hJ.val (by simp [hd] : L 15 = true) rfl fun _ h => h
        have v16 := hJ.val (by simp [hd] : L 16 = true) rfl fun _ h => h
        clear hJ hd
        go_simp
        exact hK3 _ _ (Below.refl _ _) rfl
      | 18, ho =>
        cases ho
        simp [Region.binds] at hd
        have hbW := hJ.bel
        have v13 := hJ.val (by simp [hd] : L 13 = true) rfl fun _ h => h
        have v17 := hJ.val (by simp [hd] : L 17 = true) rfl fun _ h => h
        clear hJ hd
        go_simp
        exact hK3 _ _ (Below.refl _ _) rfl
      | 19, ho =>
        cases ho
        simp [Region.binds] at hd
        have hbW := hJ.bel
        have v13 := hJ.val (by simp [hd] : L 13 = true) rfl fun _ h => h
        have v18 := hJ.val (by simp [hd] : L 18 = true) rfl fun _ h => h
        clear hJ hd
        obtain ⟨A2, d2, c0, c1, c2, hA2⟩ := HNA.out W (HZW.out.trans (hbW.mono HZW.out.size))
        replace c0 : World.cell? W ⟨ba, oa + k * 3, none⟩ = some (.int .i64 ct) := c0
        replace c1 : World.cell? W ⟨ba, oa + k * 3 + 1, none⟩ = some (.int .i64 pa) := c1
        replace c2 : World.cell? W ⟨ba, oa + k * 3 + 2, none⟩ = some (.slice A2 lk.length d2) := c2
        go_simp
        exact hK3 _ _ (Below.refl _ _) rfl
      | 20, ho =>
        cases ho
        simp [Region.binds] at hd
        have hbW := hJ.bel
        have a3 : act.tmps[3]? = some _ := hJ.out 3 (by decide)
        have v13 := hJ.val (by simp [hd] : L 13 = true) rfl fun _ h => h
        clear hJ hd
        go_simp
        exact hK3 _ _ (Below.refl _ _) rfl
      | 21, ho =>
        cases ho
        simp [Region.binds] at hd
        have hbW := hJ.bel
        have v13 := hJ.val (by simp [hd] : L 13 = true) rfl fun _ h => h
        have v20 := hJ.val (by simp [hd] : L 20 = true) rfl fun _ h => h
        clear hJ hd
        have b1 := (row6 (HXB.out W (HZW.out.trans (hbW.mono HZW.out.size)))).2.1
        go_simp
        exact hK3 _ _ (Below.refl _ _) rfl
      | 23, ho =>
        cases ho
        simp [Region.binds] at hd
        have hbW := hJ.bel
        have v13 := hJ.val (by simp [hd] : L 13 = true) rfl fun _ h => h
        have v21 := hJ.val (by simp [hd] : L 21 = true) rfl fun _ h => h
        have v22 := hJ.val (by simp [hd] : L 22 = true) rfl fun _ h => h
        clear hJ hd
        go_simp
        exact hK3 _ _ (Below.refl _ _) rfl
      | 24, ho =>
        cases ho
        simp [Region.binds] at hd
        have hbW := hJ.bel
        have v13 := hJ.val (by simp [hd] : L 13 = true) rfl fun _ h => h
        have v23 := hJ.val (by simp [hd] : L 23 = true) rfl fun _ h => h
        clear hJ hd
        go_simp
        exact hK3 _ _ (Below.refl _ _) rfl
      | 25, ho =>
        cases ho
        simp [Region.binds] at hd
        have hbW := hJ.bel
        have v13 := hJ.val (by simp [hd] : L 13 = true) rfl fun _ h => h
        have v24 := hJ.val (by simp [hd] : L 24 = true) rfl fun _ h => h
        clear hJ hd
        obtain ⟨A2, d2, c0, c1, c2, hA2⟩ := HNB.out W (HZW.out.trans (hbW.mono HZW.out.size))
        replace c0 : World.cell? W ⟨bb, ob + k * 3, none⟩ = some (.int .i64 ct) := c0
        replace c1 : World.cell? W ⟨bb, ob + k * 3 + 1, none⟩ = some (.int .i64 pa) := c1
        replace c2 : World.cell? W ⟨bb, ob + k * 3 + 2, none⟩ = some (.slice A2 lk.length d2) := c2
        go_simp
        exact hK3 _ _ (Below.refl _ _) rfl
      | 26, ho =>
        cases ho
        simp [Region.binds] at hd
        have hbW := hJ.bel
        have v13 := hJ.val (by simp [hd] : L 13 = true) rfl fun _ h => h
        have v19 := hJ.val (by simp [hd] : L 19 = true) rfl fun _ h => h
        have v25 := hJ.val (by simp [hd] : L 25 = true) rfl fun _ h => h
        clear hJ hd
        go_simp
        exact hK3 _ _ (Below.refl _ _) rfl
      | 27, ho =>
        cases ho
        simp [Region.binds] at hd
        have hbW := hJ.bel
        have v13 := hJ.val (by simp [hd] : L 13 = true) rfl fun _ h => h
        have v26 := hJ.val (by simp [hd] : L 26 = true) rfl fun _ h => h
        clear hJ hd
        go_simp
        exact hK3 _ _ (Below.refl _ _) rfl
      | 28, ho =>
        cases ho
        simp [Region.binds] at hd
        have hbW := hJ.bel
        have v27 := hJ.val (by simp [hd] : L 27 = true) rfl fun _ h => h
        clear hJ hd
        go_simp
        exact hK3 _ _ (Below.refl _ _) rfl
      | 29, ho =>
        cases ho
        simp [Region.binds] at hd
        have hbW := hJ.bel
        have a2 : act.tmps[2]? = some _ := hJ.out 2 (by decide)
        have v28 := hJ.val (by simp [hd] : L 28 = true) rfl fun _ h => h
        clear hJ hd
        go_simp
        exact hK3 _ _ (Below.refl _ _) rfl
      | 30, ho =>
        cases ho
        simp [Region.binds] at hd
        have hbW := hJ.bel
        have v28 := hJ.val (by simp [hd] : L 28 = true) rfl fun _ h => h
        have v29 := hJ.val (by simp [hd] : L 29 = true) rfl fun _ h => h
        clear hJ hd
        have a1 := (row6 (HXA.out W (HZW.out.trans (hbW.mono HZW.out.size)))).2.1
        go_simp
        exact hK3 _ _ (Below.refl _ _) rfl
      | 31, ho | 37, ho =>
        cases ho
        simp [Region.binds] at hd
        have hbW := hJ.bel
        have a5 : act.tmps[5]? = some _ := hJ.out 5 (by decide)
        have v28 := hJ.val (by simp [hd] : L 28 = true) rfl fun _ h => h
        clear hJ hd
        go_simp
        exact hK3 _ _ (Below.refl _ _) rfl
      | 32, ho =>
        cases ho
        simp [Region.binds] at hd
        have hbW := hJ.bel
        have v28 := hJ.val (by simp [hd] : L 28 = true) rfl fun _ h => h
        have v30 := hJ.val (by simp [hd] : L 30 = true) rfl fun _ h => h
        have v31 := hJ.val (by simp [hd] : L 31 = true) rfl fun _ h => h
        clear hJ hd
        go_simp
        exact hK3 _ _ (Below.refl _ _) rfl
      | 33, ho =>
        cases ho
        simp [Region.binds] at hd
        have hbW := hJ.bel
        have v28 := hJ.val (by simp [hd] : L 28 = true) rfl fun _ h => h
        have v32 := hJ.val (by simp [hd] : L 32 = true) rfl fun _ h => h
        clear hJ hd
        go_simp
        exact hK3 _ _ (Below.refl _ _) rfl
      | 34, ho =>
        cases ho
        simp [Region.binds] at hd
        have hbW := hJ.bel
        have v28 := hJ.val (by simp [hd] : L 28 = true) rfl fun _ h => h
        have v33 := hJ.val (by simp [hd] : L 33 = true) rfl fun _ h => h
        clear hJ hd
        obtain ⟨A2, d2, c0, c1, c2, hA2⟩ := HNA.out W (HZW.out.trans (hbW.mono HZW.out.size))
        replace c0 : World.cell? W ⟨ba, oa + k * 3, none⟩ = some (.int .i64 ct) := c0
        replace c1 : World.cell? W ⟨ba, oa + k * 3 + 1, none⟩ = some (.int .i64 pa) := c1
        replace c2 : World.cell? W ⟨ba, oa + k * 3 + 2, none⟩ = some (.slice A2 lk.length d2) := c2
        replace hA2 : Cells W A2 (ints lk) := hA2
        have HA2 := Lib.hid hA2
        clear hA2
        go_simp
        exact hK3 _ _ (Below.refl _ _) ⟨_, _, rfl, HA2.out⟩
      | 35, ho =>
        cases ho
        simp [Region.binds] at hd
        have hbW := hJ.bel
        have a3 : act.tmps[3]? = some _ := hJ.out 3 (by decide)
        have v28 := hJ.val (by simp [hd] : L 28 = true) rfl fun _ h => h
        clear hJ hd
        go_simp
        exact hK3 _ _ (Below.refl _ _) rfl
      | 36, ho =>
        cases ho
        simp [Region.binds] at hd
        have hbW := hJ.bel
        have v28 := hJ.val (by simp [hd] : L 28 = true) rfl fun _ h => h
        have v35 := hJ.val (by simp [hd] : L 35 = true) rfl fun _ h => h
        clear hJ hd
        have b1 := (row6 (HXB.out W (HZW.out.trans (hbW.mono HZW.out.size)))).2.1
        go_simp
        exact hK3 _ _ (Below.refl _ _) rfl
      | 38, ho =>
        cases ho
        simp [Region.binds] at hd
        have hbW := hJ.bel
        have v28 := hJ.val (by simp [hd] : L 28 = true) rfl fun _ h => h
        have v36 := hJ.val (by simp [hd] : L 36 = true) rfl fun _ h => h
        have v37 := hJ.val (by simp [hd] : L 37 = true) rfl fun _ h => h
        clear hJ hd
        go_simp
        exact hK3 _ _ (Below.refl _ _) rfl
      | 39, ho =>
        cases ho
        simp [Region.binds] at hd
        have hbW := hJ.bel
        have v28 := hJ.val (by simp [hd] : L 28 = true) rfl fun _ h => h
        have v38 := hJ.val (by simp [hd] : L 38 = true) rfl fun _ h => h
        clear hJ hd
        go_simp
        exact hK3 _ _ (Below.refl _ _) rfl
      | 40, ho =>
        cases ho
        simp [Region.binds] at hd
        have hbW := hJ.bel
        have v28 := hJ.val (by simp [hd] : L 28 = true) rfl fun _ h => h
        have v39 := hJ.val (by simp [hd] : L 39 = true) rfl fun _ h => h
        clear hJ hd
        obtain ⟨A2, d2, c0, c1, c2, hA2⟩ := HNB.out W (HZW.out.trans (hbW.mono HZW.out.size))
        replace c0 : World.cell? W ⟨bb, ob + k * 3, none⟩ = some (.int .i64 ct) := c0
        replace c1 : World.cell? W ⟨bb, ob + k * 3 + 1, none⟩ = some (.int .i64 pa) := c1
        replace c2 : World.cell? W ⟨bb, ob + k * 3 + 2, none⟩ = some (.slice A2 lk.length d2) := c2
        replace hA2 : Cells W A2 (ints lk) := hA2
        have HA2 := Lib.hid hA2
        clear hA2
        go_simp
        exact hK3 _ _ (Below.refl _ _) ⟨_, _, rfl, HA2.out⟩
      | 41, ho =>
        cases ho
        simp [Region.binds] at hd
        have hbW := hJ.bel
        have v28 := hJ.val (by simp [hd] : L 28 = true) rfl fun _ h => h
        have l34 : L 34 = true := by simp [hd]
        obtain ⟨u34, v34, Ax, dx, rfl, hr34⟩ := hJ.has 34 94 l34 rfl
        have l40 : L 40 = true := by simp [hd]
        obtain ⟨u40, v40, Ay, dy, rfl, hr40⟩ := hJ.has 40 100 l40 rfl
        clear hJ hd
        have HCX := Lib.hid hr34
        have HCY := Lib.hid hr40
        clear hr34 hr40
        have HBW := Lib.hid hbW
        clear hbW
        go_simp
        go_at_call 133
        refine ((show Calls Tryz.prog 133 #[.slice Ax lk.length dx, .slice Ay lk.length dy] W (fun e w' => e = .returned (.bool true) ∧ Below W.heap.size W w') from by have h := rInts_any Ax Ay dx dy lk lk W (by omega) (by omega) HCX.out HCY.out; rw [sameI_self] at h; exact h)).mono ?_
        rintro e W' ⟨rfl, hb⟩
        go_simp
        exact hK3 _ _ hb rfl
      | 42, ho =>
        cases ho
        simp [Region.binds] at hd
        have hbW := hJ.bel
        have v28 := hJ.val (by simp [hd] : L 28 = true) rfl fun _ h => h
        have v41 := hJ.val (by simp [hd] : L 41 = true) rfl fun _ h => h
        clear hJ hd
        go_simp
        exact hK3 _ _ (Below.refl _ _) rfl
      | 43, ho =>
        cases ho
        simp [Region.binds] at hd
        have hbW := hJ.bel
        have v28 := hJ.val (by simp [hd] : L 28 = true) rfl fun _ h => h
        have v42 := hJ.val (by simp [hd] : L 42 = true) rfl fun _ h => h
        clear hJ hd
        go_simp
        exact hK3 _ _ (Below.refl _ _) rfl
      | q + 44, ho => simp at ho
    intro V W hbW hV
    have v0 : V 0 = _ := hV 0 60 rfl
    have v1 : V 1 = _ := hV 1 61 rfl
    have v2 : V 2 = _ := hV 2 62 rfl
    have v3 : V 3 = _ := hV 3 63 rfl
    have v4 : V 4 = _ := hV 4 64 rfl
    have v5 : V 5 = _ := hV 5 65 rfl
    have v6 : V 6 = _ := hV 6 66 rfl
    have v7 : V 7 = _ := hV 7 67 rfl
    have v8 : V 8 = _ := hV 8 68 rfl
    have v9 : V 9 = _ := hV 9 69 rfl
    have v10 : V 10 = _ := hV 10 70 rfl
    have v11 : V 11 = _ := hV 11 71 rfl
    have v12 : V 12 = _ := hV 12 72 rfl
    have v13 : V 13 = _ := hV 13 73 rfl
    have v14 : V 14 = _ := hV 14 74 rfl
    have v15 : V 15 = _ := hV 15 75 rfl
    have v16 : V 16 = _ := hV 16 76 rfl
    have v17 : V 17 = _ := hV 17 77 rfl
    have v18 : V 18 = _ := hV 18 78 rfl
    have v19 : V 19 = _ := hV 19 79 rfl
    have v20 : V 20 = _ := hV 20 80 rfl
    have v21 : V 21 = _ := hV 21 81 rfl
    have v22 : V 22 = _ := hV 22 82 rfl
    have v23 : V 23 = _ := hV 23 83 rfl
    have v24 : V 24 = _ := hV 24 84 rfl
    have v25 : V 25 = _ := hV 25 85 rfl
    have v26 : V 26 = _ := hV 26 86 rfl
    have v27 : V 27 = _ := hV 27 87 rfl
    have v28 : V 28 = _ := hV 28 88 rfl
    have v29 : V 29 = _ := hV 29 89 rfl
    have v30 : V 30 = _ := hV 30 90 rfl
    have v31 : V 31 = _ := hV 31 91 rfl
    have v32 : V 32 = _ := hV 32 92 rfl
    have v33 : V 33 = _ := hV 33 93 rfl
    obtain ⟨Ax34, dx34, v34, hr34⟩ : ∃ Ax dx, V 34 = .slice Ax lk.length dx ∧ Cells W Ax (ints lk) := hV 34 94 rfl
    have v35 : V 35 = _ := hV 35 95 rfl
    have v36 : V 36 = _ := hV 36 96 rfl
    have v37 : V 37 = _ := hV 37 97 rfl
    have v38 : V 38 = _ := hV 38 98 rfl
    have v39 : V 39 = _ := hV 39 99 rfl
    obtain ⟨Ay40, dy40, v40, hr40⟩ : ∃ Ay dy, V 40 = .slice Ay lk.length dy ∧ Cells W Ay (ints lk) := hV 40 100 rfl
    have v41 : V 41 = _ := hV 41 101 rfl
    have v42 : V 42 = _ := hV 42 102 rfl
    have v43 : V 43 = _ := hV 43 103 rfl
    clear hV
    simp only [layV, List.setIfInBounds_toArray, List.set_cons_zero, List.set_cons_succ, v0, v1, v2, v3, v4, v5, v6, v7, v8, v9, v10, v11, v12, v13, v14, v15, v16, v17, v18, v19, v20, v21, v22, v23, v24, v25, v26, v27, v28, v29, v30, v31, v32, v33, v34, v35, v36, v37, v38, v39, v40, v41, v42, v43]
    clear v0 v1 v2 v3 v4 v5 v6 v7 v8 v9 v10 v11 v12 v13 v14 v15 v16 v17 v18 v19 v20 v21 v22 v23 v24 v25 v26 v27 v28 v29 v30 v31 v32 v33 v34 v35 v36 v37 v38 v39 v40 v41 v42 v43
    have HZF := Lib.hid (HZW.out.trans (hbW.mono HZW.out.size))
    clear hbW
    go_wp2_with fail
    go_roundw
    case rel => exact ⟨k + 1, by omega, by go_num, HZF.out⟩
    case measure => simp [intOf]; omega
  obtain rfl : g.nodes.length = k := by omega
  obtain ⟨a0, a1, a2, a3, a4, a5⟩ := row6 (HXA.out wr hb)
  obtain ⟨b0, b1, b2, b3, b4, b5⟩ := row6 (HXB.out wr hb)
  clear hb
  go_wp2_with fail
  clear a0 a1 a2 a3 a4 a5 b0 b1 b2 b3 b4 b5
  obtain ⟨wq, hwq⟩ : ∃ wq, wq = wr := ⟨_, rfl⟩
  subst hwq
  go_loopw [6] (fun i wr => ∃ k : Nat, k ≤ g.inner.length ∧ i = .int .i64 k ∧ Below w0.heap.size w0 wr)
    (fun i _ => g.inner.length - (intOf i).toNat)
  case atStart => exact ⟨0, Nat.zero_le _, rfl, HZW.out⟩
  clear HZW
  obtain ⟨k, hk, rfl, hb⟩ := hrel
  have HZW := Lib.hid hb
  by_cases hlt : k < g.inner.length
  · obtain ⟨ba, oa, ca, ea, _, _⟩ := wi_at (HGA.out wr (HB0.out.trans (hb.mono HB0.out.size))).i hlt
    obtain ⟨bb, ob, cb, eb, _, _⟩ := wi_at (HGB.out wr (HB0.out.trans (hb.mono HB0.out.size))).i hlt
    cases ea
    cases eb
    have HNA := Lib.hid (show ∀ W, Below w0.heap.size w0 W → W.cell? ⟨ba, oa + k * 2, none⟩ = some (.string g.inner[k].1) ∧ W.cell? ⟨ba, oa + k * 2 + 1, none⟩ = some (.int .i64 g.inner[k].2) from fun W hb => by
      obtain ⟨b1, o1, c1, e1, h1⟩ := wi_at (HGA.out W (HB0.out.trans (hb.mono HB0.out.size))).i hlt
      cases e1
      exact h1)
    have HNB := Lib.hid (show ∀ W, Below w0.heap.size w0 W → W.cell? ⟨bb, ob + k * 2, none⟩ = some (.string g.inner[k].1) ∧ W.cell? ⟨bb, ob + k * 2 + 1, none⟩ = some (.int .i64 g.inner[k].2) from fun W hb => by
      obtain ⟨b1, o1, c1, e1, h1⟩ := wi_at (HGB.out W (HB0.out.trans (hb.mono HB0.out.size))).i hlt
      cases e1
      exact h1)
    obtain ⟨x, hx⟩ : ∃ x, x = g.inner[k] := ⟨_, rfl⟩
    rw [← hx] at HNA HNB
    obtain ⟨s, l⟩ := x
    have nq := neWiG s l
    obtain ⟨a0, a1, a2, a3, a4, a5⟩ := row6 (HXA.out wr hb)
    obtain ⟨b0, b1, b2, b3, b4, b5⟩ := row6 (HXB.out wr hb)
    clear hb hx
    have i0 : (0 : Int) ≤ (k : Int) := by omega
    have i1 : (k : Int) < (g.inner.length : Int) := by omega
    go_wp2_with fail
    clear a0 a1 a2 a3 a4 a5 b0 b1 b2 b3 b4 b5
    refine wp_region_vals (by kernel_rfl) [some 111, some 112, some 113, some 114, some 115, some 116, some 117, some 118, some 119, some 120, some 121] (fun q v W => match q with | 0 => v = .pointer (some ⟨w.heap.size, 5, none⟩) | 1 => v = .slice (some ⟨ba, oa, none⟩) g.inner.length cIa | 2 => v = .int .i64 (k : Int) | 3 => v = .pointer (some ⟨ba, oa + k * 2, none⟩) | 4 => v = .agg #[.string s, .int .i64 l] | 5 => v = .pointer (some ⟨w.heap.size + 1, 5, none⟩) | 6 => v = .slice (some ⟨bb, ob, none⟩) g.inner.length cIb | 7 => v = .int .i64 (k : Int) | 8 => v = .pointer (some ⟨bb, ob + k * 2, none⟩) | 9 => v = .agg #[.string s, .int .i64 l] | 10 => v = .bool false | _ => True) (by kernel_rfl) (by kernel_rfl) ?m2o ?s2t ?f2i
    case m2o =>
      intro q v W W' hb h
      match q, h with
      | 0, h | 1, h | 2, h | 3, h | 4, h | 5, h | 6, h | 7, h | 8, h | 9, h | 10, h => exact h
      | q + 11, _ => trivial
    case s2t =>
      intro L act W q oo hJ ho hd K3 hK3
      match q, ho with
      | 0, ho =>
        cases ho
        have hbW := hJ.bel
        have a2 : act.tmps[2]? = some _ := hJ.out 2 (by decide)
        clear hJ hd
        go_simp
        exact hK3 _ _ (Below.refl _ _) rfl
      | 1, ho =>
        cases ho
        simp [Region.binds] at hd
        have hbW := hJ.bel
        have v0 := hJ.val (by simp [hd] : L 0 = true) rfl fun _ h => h
        clear hJ hd
        have a5 := (row6 (HXA.out W (HZW.out.trans (hbW.mono HZW.out.size)))).2.2.2.2.2
        go_simp
        exact hK3 _ _ (Below.refl _ _) rfl
      | 2, ho | 7, ho =>
        cases ho
        have hbW := hJ.bel
        have a6 : act.tmps[6]? = some _ := hJ.out 6 (by decide)
        clear hJ hd
        go_simp
        exact hK3 _ _ (Below.refl _ _) rfl
      | 3, ho =>
        cases ho
        simp [Region.binds] at hd
        have hbW := hJ.bel
        have v1 := hJ.val (by simp [hd] : L 1 = true) rfl fun _ h => h
        have v2 := hJ.val (by simp [hd] : L 2 = true) rfl fun _ h => h
        clear hJ hd
        go_simp
        exact hK3 _ _ (Below.refl _ _) rfl
      | 4, ho =>
        cases ho
        simp [Region.binds] at hd
        have hbW := hJ.bel
        have v3 := hJ.val (by simp [hd] : L 3 = true) rfl fun _ h => h
        clear hJ hd
        obtain ⟨c0, c1⟩ := HNA.out W (HZW.out.trans (hbW.mono HZW.out.size))
        replace c0 : World.cell? W ⟨ba, oa + k * 2, none⟩ = some (.string s) := c0
        replace c1 : World.cell? W ⟨ba, oa + k * 2 + 1, none⟩ = some (.int .i64 l) := c1
        go_simp
        exact hK3 _ _ (Below.refl _ _) rfl
      | 5, ho =>
        cases ho
        have hbW := hJ.bel
        have a3 : act.tmps[3]? = some _ := hJ.out 3 (by decide)
        clear hJ hd
        go_simp
        exact hK3 _ _ (Below.refl _ _) rfl
      | 6, ho =>
        cases ho
        simp [Region.binds] at hd
        have hbW := hJ.bel
        have v5 := hJ.val (by simp [hd] : L 5 = true) rfl fun _ h => h
        clear hJ hd
        have b5 := (row6 (HXB.out W (HZW.out.trans (hbW.mono HZW.out.size)))).2.2.2.2.2
        go_simp
        exact hK3 _ _ (Below.refl _ _) rfl
      | 8, ho =>
        cases ho
        simp [Region.binds] at hd
        have hbW := hJ.bel
        have v6 := hJ.val (by simp [hd] : L 6 = true) rfl fun _ h => h
        have v7 := hJ.val (by simp [hd] : L 7 = true) rfl fun _ h => h
        clear hJ hd
        go_simp
        exact hK3 _ _ (Below.refl _ _) rfl
      | 9, ho =>
        cases ho
        simp [Region.binds] at hd
        have hbW := hJ.bel
        have v8 := hJ.val (by simp [hd] : L 8 = true) rfl fun _ h => h
        clear hJ hd
        obtain ⟨c0, c1⟩ := HNB.out W (HZW.out.trans (hbW.mono HZW.out.size))
        replace c0 : World.cell? W ⟨bb, ob + k * 2, none⟩ = some (.string s) := c0
        replace c1 : World.cell? W ⟨bb, ob + k * 2 + 1, none⟩ = some (.int .i64 l) := c1
        go_simp
        exact hK3 _ _ (Below.refl _ _) rfl
      | 10, ho =>
        cases ho
        simp [Region.binds] at hd
        have hbW := hJ.bel
        have v4 := hJ.val (by simp [hd] : L 4 = true) rfl fun _ h => h
        have v9 := hJ.val (by simp [hd] : L 9 = true) rfl fun _ h => h
        clear hJ hd
        go_simp
        exact hK3 _ _ (Below.refl _ _) rfl
      | q + 11, ho => simp at ho
    intro V W hbW hV
    have v0 : V 0 = _ := hV 0 111 rfl
    have v1 : V 1 = _ := hV 1 112 rfl
    have v2 : V 2 = _ := hV 2 113 rfl
    have v3 : V 3 = _ := hV 3 114 rfl
    have v4 : V 4 = _ := hV 4 115 rfl
    have v5 : V 5 = _ := hV 5 116 rfl
    have v6 : V 6 = _ := hV 6 117 rfl
    have v7 : V 7 = _ := hV 7 118 rfl
    have v8 : V 8 = _ := hV 8 119 rfl
    have v9 : V 9 = _ := hV 9 120 rfl
    have v10 : V 10 = _ := hV 10 121 rfl
    clear hV
    simp only [layV, List.setIfInBounds_toArray, List.set_cons_zero, List.set_cons_succ, v0, v1, v2, v3, v4, v5, v6, v7, v8, v9, v10]
    clear v0 v1 v2 v3 v4 v5 v6 v7 v8 v9 v10
    have HZF := Lib.hid (HZW.out.trans (hbW.mono HZW.out.size))
    clear hbW
    go_wp2_with fail
    go_roundw
    case rel => exact ⟨k + 1, by omega, by go_num, HZF.out⟩
    case measure => simp [intOf]; omega
  obtain rfl : g.inner.length = k := by omega
  obtain ⟨a0, a1, a2, a3, a4, a5⟩ := row6 (HXA.out wr hb)
  obtain ⟨b0, b1, b2, b3, b4, b5⟩ := row6 (HXB.out wr hb)
  clear hb
  go_wp2_with fail
  go_ret
  exact ⟨rfl, HB0.out.trans (HZW.out.mono HB0.out.size)⟩

end Go.Proofs.YtijkdpdmclkmlaaGreatDoor
