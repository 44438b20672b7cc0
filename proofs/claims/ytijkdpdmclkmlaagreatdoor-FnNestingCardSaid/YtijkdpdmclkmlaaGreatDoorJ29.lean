/- Two bigraphs as one: joined walked. -/
import Derived.Test.YtijkdpdmclkmlaaGreatDoorProg
import Derived.Test.YtijkdpdmclkmlaaGreatDoorJ0
import Derived.Test.YtijkdpdmclkmlaaGreatDoorJ28
import Derived.BigQuiet
import Derived.Deep.Cut
set_option linter.unusedSimpArgs false
set_option linter.unusedVariables false
set_option maxRecDepth 100000
set_option maxHeartbeats 16000000
namespace Go.Proofs.YtijkdpdmclkmlaaGreatDoor
open Go.RowKit
theorem node_one (a b : Int) (A : Option Addr) (n c : Nat) : ∀ u ∈ ([.int .i64 a, .int .i64 b, .slice A n c] : List Value), u.oneCell' = true := by
 intro u hu
 simp at hu
 rcases hu with rfl | rfl | rfl <;> rfl
theorem end_small {g : Gr} (hs : SmallG g) {l : Int} (hl : LinkP g l) : -1000 ≤ (endG g l).1 ∧ (endG g l).1 ≤ 1000 := by
 have h1 := hl.1
 have h2 := hs.edges
 unfold endG
 split
 ·exact ⟨by show -1000 ≤ l; omega, by show l ≤ 1000; omega⟩
 exact ⟨by show -1000 ≤ (0 : Int); omega, by show (0 : Int) ≤ 1000; omega⟩
theorem joined_any (a b : Gr) (nva sva ova iva nvb svb ovb ivb : Value) (roots : Int) (As : Option Addr) (cs : Nat) (s0 : List Int) (Ao : Option Addr) (co : Nat) (outer : List ByteArray) (Fp : FuncId) (capp : Array Value) (place : Int → Int) (Fn : FuncId) (capn : Array Value) (name : ByteArray → En) (w : World)
    (hsa : SmallG a) (hsb : SmallG b) (hon : outer.length ≤ 1000) (hsn : s0.length ≤ 1000)
    (hla : (∀ x ∈ a.nodes, ∀ l ∈ x.2.2, LinkP a l) ∧ ∀ x ∈ a.inner, LinkP a x.2) (hlb : (∀ x ∈ b.nodes, ∀ l ∈ x.2.2, LinkP b l) ∧ ∀ x ∈ b.inner, LinkP b x.2)
    (hpb : (∀ x ∈ b.nodes, x.2.1 ≤ 1000000) ∧ ∀ p ∈ b.sites, p ≤ 1000000)
    (hGa : RGr w nva sva ova iva a) (hGb : RGr w nvb svb ovb ivb b) (hA : Cells w Ao (strs outer)) (hS : Cells w As (ints s0))
    (hFp : ∀ (args : Array Value) (w : World), (callFunc Fp args).run Tryz.prog w = .ok (.enter Fp args) w) (hFn : ∀ (args : Array Value) (w : World), (callFunc Fn args).run Tryz.prog w = .ok (.enter Fn args) w)
    (hplace : ∀ (p : Int) (W : World), ((∃ x ∈ b.nodes, x.2.1 = p) ∨ p ∈ b.sites) → p < 0 → Below w.heap.size w W → Calls Tryz.prog Fp (#[.int .i64 p] ++ capp) W fun r W' => r = .returned (.int .i64 (place p)) ∧ Below W.heap.size W W')
    (hname : ∀ (l : Int) (W : World), LinkP b l → (endG b l).2 ≠ bE → Below w.heap.size w W → Calls Tryz.prog Fn (#[.string (endG b l).2] ++ capn) W fun r W' => r = .returned (enV (name (endG b l).2)) ∧ Below W.heap.size W W') :
    Calls Tryz.prog 166 #[.agg #[.int .i64 a.roots, nva, sva, .int .i64 a.edges, ova, iva], .agg #[.int .i64 b.roots, nvb, svb, .int .i64 b.edges, ovb, ivb], .int .i64 roots, .slice As s0.length cs, .slice Ao outer.length co, .func (.func Fp) #[] capp, .func (.func Fn) #[] capn] w fun e w' => ∃ X : BX, e = .returned (.agg X.cells) ∧ X.g = joinedG a b roots s0 (sortS outer) place name ∧ RG w w' X := by
  have HGA := Lib.hid (show ∀ W, Below w.heap.size w W → RGr W nva sva ova iva a from fun W hb => hGa.below hb)
  have HGB := Lib.hid (show ∀ W, Below w.heap.size w W → RGr W nvb svb ovb ivb b from fun W hb => hGb.below hb)
  have HA := Lib.hid (show ∀ W, Below w.heap.size w W → Cells W Ao (strs outer) from fun W hb => hA.below hb)
  have HS := Lib.hid (show ∀ W, Below w.heap.size w W → Cells W As (ints s0) from fun W hb => hS.below hb)
  have HPL := Lib.hid hplace
  have HNM := Lib.hid hname
  have HLA := Lib.hid hla
  have HLB := Lib.hid hlb
  have HPB := Lib.hid hpb
  have HSA := Lib.hid hsa
  have HSB := Lib.hid hsb
  have hea := hsa.edges
  have heb := hsb.edges
  have hbn := hsb.nodes
  have hbs := hsb.sites
  have han := hsa.nodes
  obtain ⟨ANa, cNa, ASa, cSa, AOa, cOa, AIa, cIa, rfl, rfl, rfl, rfl⟩ := hGa.form
  obtain ⟨ANb, cNb, ASb, cSb, AOb, cOb, AIb, cIb, rfl, rfl, rfl, rfl⟩ := hGb.form
  obtain ⟨w0, hw0, hb0, hs0, bxa0, bxb0, bf0, hR0⟩ := laid4 w (.cells #[.int .i64 a.roots, .slice ANa a.nodes.length cNa, .slice ASa a.sites.length cSa, .int .i64 a.edges, .slice AOa a.outer.length cOa, .slice AIa a.inner.length cIa] 31) (.cells #[.int .i64 b.roots, .slice ANb b.nodes.length cNb, .slice ASb b.sites.length cSb, .int .i64 b.edges, .slice AOb b.outer.length cOb, .slice AIb b.inner.length cIb] 31) (.cells #[.func (.func Fn) #[] capn] 124) (.cells #[.int .i64 0, .slice none 0 0, .slice none 0 0, .int .i64 0, .slice none 0 0, .slice none 0 0] 31)
  have HXA := Lib.hid (keepB bxa0)
  have HXB := Lib.hid (keepB bxb0)
  have HXN := Lib.hid (keepB bf0)
  have HRR := Lib.hid (keepB hR0)
  have HB0 := Lib.hid hb0
  have HR0 := Lib.hid hR0
  have HS0 := Lib.hid hs0
  have HW0 := Lib.hid hw0
  have hF1 : ∀ (args : Array Value) (w : World), (callFunc 220 args).run Tryz.prog w = .ok (.enter 220 args) w := fun args w => enter_of (P := Tryz.prog) (F := 220) (fn := Tryz.f220) (by kernel_rfl) (by kernel_rfl) (by kernel_rfl) args w
  have hF2 : ∀ (args : Array Value) (w : World), (callFunc 221 args).run Tryz.prog w = .ok (.enter 221 args) w := fun args w => enter_of (P := Tryz.prog) (F := 221) (fn := Tryz.f221) (by kernel_rfl) (by kernel_rfl) (by kernel_rfl) args w
  obtain ⟨ed, hed⟩ : ∃ ed, ed = a.edges + b.edges := ⟨_, rfl⟩
  have hed1 : -1000000 ≤ ed ∧ ed ≤ 1000000 := by omega
  have HED := Lib.hid hed
  have HC1 := Lib.hid (relinked_any a _ _ _ _ ed Ao co outer 220 #[] id w0 hsa hed1 hon hla (HGA.out w0 hb0) (HA.out w0 hb0) hF1 (fun l W hl hb => joined1_any (endG a l) W))
  have HC2 := Lib.hid (show ∀ W, Below w0.heap.size w0 W → _ from fun W hb => relinked_any b _ _ _ _ ed Ao co outer 221 #[.pointer (some ⟨w.heap.size, 0, none⟩), .pointer (some ⟨w.heap.size + 1 + 1, 0, none⟩)] (rightT a name) W hsb hed1 hon hlb (HGB.out W (hb0.trans (hb.mono hb0.size))) (HA.out W (hb0.trans (hb.mono hb0.size))) hF2
    (fun l W2 hl hb2 => joined2_any a (endG b l) w.heap.size (w.heap.size + 1 + 1) Fn capn name W2 hsa.edges (end_small hsb hl)
      (fun W3 hb3 => cell_of_row _ _ 3 _ _ _ (HXA.out W3 ((hb.trans (hb2.mono hb.size)).trans (hb3.mono (hb.trans (hb2.mono hb.size)).size))))
      (fun W3 hb3 => cell_of_row _ _ 0 _ _ _ (HXN.out W3 ((hb.trans (hb2.mono hb.size)).trans (hb3.mono (hb.trans (hb2.mono hb.size)).size)))) hFn
      (fun W3 hne hb3 => hname l W3 hl hne ((hb0.trans ((hb.trans (hb2.mono hb.size)).mono hb0.size)).trans (hb3.mono (hb0.trans ((hb.trans (hb2.mono hb.size)).mono hb0.size)).size)))))
  obtain ⟨xa0, xa1, xa2, xa3, xa4, xa5⟩ := row6 bxa0
  obtain ⟨xb0, xb1, xb2, xb3, xb4, xb5⟩ := row6 bxb0
  rw [hw0] at xa0 xa1 xa2 xa3 xa4 xa5 xb0 xb1 xb2 xb3 xb4 xb5
  clear hGa hGb hA hS hplace hname hla hlb hpb hsa hsb hb0 hs0 bxa0 bxb0 bf0 hR0 hw0 hon hed
  go_enter Tryz.func166, Tryz.ntmps166
  go_wp2_with fail
  rw [← HW0.out]
  rw [← HED.out]
  (with_reducible refine HC1.out.mono ?_)
  rintro e w1 ⟨X, rfl, hXg, hr⟩
  obtain ⟨lr, le, lnv, lsv, lov, liv, lns, lls, lss, los, lis⟩ := X
  obtain ⟨lAN, lcN, lAS, lcS, lAO, lcO, lAI, lcI, e1, e2, e3, e4⟩ := hr.ob.form
  obtain rfl : lr = a.roots := congrArg Gr.roots hXg
  obtain rfl : lss = a.sites := congrArg Gr.sites hXg
  obtain rfl : ed = le := (congrArg Gr.edges hXg).symm
  obtain rfl : los = sortS outer := congrArg Gr.outer hXg
  dsimp only at e1 e2 e3 e4
  subst e1 e2 e3 e4
  obtain ⟨outs, hot⟩ : ∃ outs, outs = sortS outer := ⟨_, rfl⟩
  have HOT := Lib.hid hot
  have HLNS := Lib.hid (show lns = (relinkG a ed outs id).nodes from by rw [hot]; exact congrArg Gr.nodes hXg)
  rw [← hot] at hr ⊢
  simp only [BX.cells]
  have HL := Lib.hid (show RG w0 w1 (⟨a.roots, ed, .slice lAN lns.length lcN, .slice lAS a.sites.length lcS, .slice lAO outs.length lcO, .slice lAI lis.length lcI, lns, lls, a.sites, outs, lis⟩ : BX) from hr)
  have hb1 := hr.bel
  obtain ⟨wL, hwL, hbL, -⟩ := laid1 w1 (.cells #[.int .i64 a.roots, .slice lAN lns.length lcN, .slice lAS a.sites.length lcS, .int .i64 ed, .slice lAO outs.length lcO, .slice lAI lis.length lcI] 31)
  have hLL := show wL.heap[w1.heap.size]? = some (.cells #[.int .i64 a.roots, .slice lAN lns.length lcN, .slice lAS a.sites.length lcS, .int .i64 ed, .slice lAO outs.length lcO, .slice lAI lis.length lcI] 31) from by rw [hwL]; exact heap_alloc_new _ _
  have HBL := Lib.hid (hb1.trans (hbL.mono hb1.size))
  have HLB := Lib.hid (show ∀ W, Below wL.heap.size wL W → W.heap[w1.heap.size]? = some (.cells #[.int .i64 a.roots, .slice lAN lns.length lcN, .slice lAS a.sites.length lcS, .int .i64 ed, .slice lAO outs.length lcO, .slice lAI lis.length lcI] 31) from fun W hb => (hb.block _ (Array.getElem?_eq_some_iff.1 hLL).1).trans hLL)
  have HB1L := Lib.hid hbL
  have HWL := Lib.hid hwL
  have hc2 := HC2.out wL HBL.out
  have HC2L := Lib.hid hc2
  have hbxb := HXB.out wL HBL.out
  clear xa0 xa1 xa2 xa3 xa4 xa5 xb0 xb1 xb2 xb3 xb4 xb5
  obtain ⟨xb0, xb1, xb2, xb3, xb4, xb5⟩ := row6 hbxb
  clear hr hXg hb1 hbL hLL hwL hot hc2 hbxb HC1
  go_wp2_with (rw [← HWL.out])
  (with_reducible refine HC2L.out.mono ?_)
  rintro e w2 ⟨X, rfl, hXg, hr⟩
  obtain ⟨rr, re, rnv, rsv, rov, riv, rns, rls, rss, ros, ris⟩ := X
  obtain ⟨rAN, rcN, rAS, rcS, rAO, rcO, rAI, rcI, e1, e2, e3, e4⟩ := hr.ob.form
  obtain rfl : rr = b.roots := congrArg Gr.roots hXg
  obtain rfl : rss = b.sites := congrArg Gr.sites hXg
  obtain rfl : ed = re := (congrArg Gr.edges hXg).symm
  obtain rfl : ros = sortS outer := congrArg Gr.outer hXg
  dsimp only at e1 e2 e3 e4
  subst e1 e2 e3 e4
  have HRNS := Lib.hid (show rns = (relinkG b ed outs (rightT a name)).nodes from by rw [HOT.out]; exact congrArg Gr.nodes hXg)
  have HRIS := Lib.hid (show ris = (relinkG b ed outs (rightT a name)).inner from by rw [HOT.out]; exact congrArg Gr.inner hXg)
  rw [← HOT.out] at hr ⊢
  simp only [BX.cells]
  have HR := Lib.hid (show RG wL w2 (⟨b.roots, ed, .slice rAN rns.length rcN, .slice rAS b.sites.length rcS, .slice rAO outs.length rcO, .slice rAI ris.length rcI, rns, rls, b.sites, outs, ris⟩ : BX) from hr)
  have hb2 := hr.bel
  obtain ⟨wR, hwR, hbR, -⟩ := laid1 w2 (.cells #[.int .i64 b.roots, .slice rAN rns.length rcN, .slice rAS b.sites.length rcS, .int .i64 ed, .slice rAO outs.length rcO, .slice rAI ris.length rcI] 31)
  have hRRb := show wR.heap[w2.heap.size]? = some (.cells #[.int .i64 b.roots, .slice rAN rns.length rcN, .slice rAS b.sites.length rcS, .int .i64 ed, .slice rAO outs.length rcO, .slice rAI ris.length rcI] 31) from by rw [hwR]; exact heap_alloc_new _ _
  have HBLR := Lib.hid (hb2.trans (hbR.mono hb2.size))
  have HRB := Lib.hid (show ∀ W, Below wR.heap.size wR W → W.heap[w2.heap.size]? = some (.cells #[.int .i64 b.roots, .slice rAN rns.length rcN, .slice rAS b.sites.length rcS, .int .i64 ed, .slice rAO outs.length rcO, .slice rAI ris.length rcI] 31) from fun W hb => (hb.block _ (Array.getElem?_eq_some_iff.1 hRRb).1).trans hRRb)
  have HB2R := Lib.hid hbR
  have HWR := Lib.hid hwR
  have hsz1 := HB1L.out.size
  have hsz2 := HBLR.out.size
  have hsz0 := HBL.out.size
  have HBR := Lib.hid (HBL.out.trans (HBLR.out.mono hsz0))
  have hsz3 : w1.heap.size + 1 = wL.heap.size := by rw [HWL.out]; simp
  have hsz4 : w0.heap.size ≤ w1.heap.size := HL.out.bel.size
  have HSZ := Lib.hid (show w0.heap.size ≤ w1.heap.size ∧ w1.heap.size ≤ wL.heap.size ∧ wL.heap.size ≤ wR.heap.size from ⟨hsz4, hsz1, hsz2⟩)
  have HLO := Lib.hid (show ∀ W, Below wR.heap.size wR W → OB W w0.heap.size (⟨a.roots, ed, .slice lAN lns.length lcN, .slice lAS a.sites.length lcS, .slice lAO outs.length lcO, .slice lAI lis.length lcI, lns, lls, a.sites, outs, lis⟩ : BX) from fun W hb => HL.out.ob.below (HB1L.out.trans (((HBLR.out.trans (hb.mono hsz2))).mono hsz1)))
  have HRO := Lib.hid (show ∀ W, Below wR.heap.size wR W → OB W wL.heap.size (⟨b.roots, ed, .slice rAN rns.length rcN, .slice rAS b.sites.length rcS, .slice rAO outs.length rcO, .slice rAI ris.length rcI, rns, rls, b.sites, outs, ris⟩ : BX) from fun W hb => HR.out.ob.below (HB2R.out.trans (hb.mono HB2R.out.size)))
  clear hr hXg hb2 hbR hRRb hwR HC2L hsz1 hsz2 hsz0 hsz3 hsz4
  go_wp2_with (rw [← HWR.out])
  refine wp_region_tail (by kernel_rfl) 12 _ rfl [some 37, some 38, some 39, some 40, some 41, some 42, some 43, some 44, some 45, some 46, some 47, some 18, none] (fun q v W => match q with | 0 => v = .int .i64 roots | 1 => v = .pointer (some ⟨w1.heap.size, 1, none⟩) | 2 => v = .slice lAN lns.length lcN | 3 => v = .slice As s0.length cs | 4 => ∃ A c, v = .slice A (s0.length) c ∧ W.ownsRow (wR.heap.size) 3 1 (.slice A (s0.length) c) (s0.length) (ints s0) | 5 => v = .int .i64 ed | 6 => v = .pointer (some ⟨w1.heap.size, 4, none⟩) | 7 => v = .slice lAO outs.length lcO | 8 => v = .pointer (some ⟨w2.heap.size, 5, none⟩) | 9 => v = .slice rAI ris.length rcI | 10 => ∃ Ac cc, v = .agg #[.int .i64 roots, .slice lAN lns.length lcN, .slice Ac s0.length cc, .int .i64 ed, .slice lAO outs.length lcO, .slice rAI ris.length rcI] ∧ W.ownsRow wR.heap.size 3 1 (.slice Ac s0.length cc) s0.length (ints s0) | 11 => ∃ g : Nat, v = .pointer (some ⟨g, 0, none⟩) ∧ wR.heap.size ≤ g ∧ W.heap[g]? = some (.cells #[.int .i64 0, .slice none 0 0, .slice none 0 0, .int .i64 0, .slice none 0 0, .slice none 0 0] 31) | _ => True) (by kernel_rfl) (by kernel_rfl) (by kernel_rfl) rfl ?m1o ?s1t ?t1a
  case m1o =>
    intro q v W W' hb h
    match q, h with
    | 0, h | 1, h | 2, h | 3, h | 5, h | 6, h | 7, h | 8, h | 9, h => exact h
    | 4, h | 10, h => exact (by obtain ⟨A, c, e, h1⟩ := h; exact ⟨A, c, e, owns_below h1 hb (Nat.le_refl _)⟩)
    | 11, h => exact (by obtain ⟨g, e, h1, h2⟩ := h; exact ⟨g, e, h1, (hb.block g (Array.getElem?_eq_some_iff.1 h2).1).trans h2⟩)
    | q + 12, _ => trivial
  case s1t =>
    as_aux_lemma =>
      intro L act W q oo hJ hqn ho hd K3 hK3
      match q, ho with
      | 0, ho =>
        cases ho
        have hbW := hJ.bel
        have a2 : act.tmps[2]? = some _ := hJ.out 2 (by decide)
        clear hJ hd
        go_simp
        exact hK3 _ _ (Below.refl _ _) rfl
      | 1, ho | 6, ho =>
        cases ho
        have hbW := hJ.bel
        have a16 : act.tmps[16]? = some _ := hJ.out 16 (by decide)
        clear hJ hd
        go_simp
        exact hK3 _ _ (Below.refl _ _) rfl
      | 2, ho =>
        cases ho
        simp [Region.binds] at hd
        have hbW := hJ.bel
        have l1 : L 1 = true := by simp [hd]
        have v1 := hJ.val l1 rfl fun _ h => h
        clear hJ hd
        have bl := HLB.out W (HBLR.out.trans (hbW.mono HBLR.out.size))
        have l1 : World.cell? W ⟨w1.heap.size, 1, none⟩ = some (.slice lAN lns.length lcN) := cell_of_row _ _ 1 _ _ _ bl
        clear bl
        go_simp
        exact hK3 _ _ (Below.refl _ _) rfl
      | 3, ho =>
        cases ho
        have hbW := hJ.bel
        have a3 : act.tmps[3]? = some _ := hJ.out 3 (by decide)
        clear hJ hd
        go_simp
        exact hK3 _ _ (Below.refl _ _) rfl
      | 4, ho =>
        cases ho
        simp [Region.binds] at hd
        have hbW := hJ.bel
        have v3 := hJ.val (by simp [hd] : L 3 = true) rfl fun _ h => h
        clear hJ hd
        have hsz := hbW.size
        have HBW := Lib.hid hbW
        have HSZ := Lib.hid hsz
        clear hsz hbW
        go_simp
        go_at_call 181
        refine (cloneIG_any As cs s0 W (by omega) (HS.out W (HB0.out.trans ((HBR.out.trans (HBW.out.mono HBR.out.size)).mono HB0.out.size)))).mono ?_
        rintro e W' ⟨u, rfl, hu, hb⟩
        have hsz := HSZ.out
        obtain ⟨Au, cu, rfl, hu⟩ := owns_form hu
        go_simp
        exact hK3 _ _ hb ⟨_, _, rfl, owns_mono hu (by have := hsz; omega)⟩
      | 5, ho =>
        cases ho
        have hbW := hJ.bel
        have a15 : act.tmps[15]? = some _ := hJ.out 15 (by decide)
        clear hJ hd
        go_simp
        exact hK3 _ _ (Below.refl _ _) rfl
      | 7, ho =>
        cases ho
        simp [Region.binds] at hd
        have hbW := hJ.bel
        have v6 := hJ.val (by simp [hd] : L 6 = true) rfl fun _ h => h
        clear hJ hd
        have bl := HLB.out W (HBLR.out.trans (hbW.mono HBLR.out.size))
        have l4 : World.cell? W ⟨w1.heap.size, 4, none⟩ = some (.slice lAO outs.length lcO) := cell_of_row _ _ 4 _ _ _ bl
        clear bl
        go_simp
        exact hK3 _ _ (Below.refl _ _) rfl
      | 8, ho =>
        cases ho
        have hbW := hJ.bel
        have a17 : act.tmps[17]? = some _ := hJ.out 17 (by decide)
        clear hJ hd
        go_simp
        exact hK3 _ _ (Below.refl _ _) rfl
      | 9, ho =>
        cases ho
        simp [Region.binds] at hd
        have hbW := hJ.bel
        have v8 := hJ.val (by simp [hd] : L 8 = true) rfl fun _ h => h
        clear hJ hd
        have bl := HRB.out W hbW
        have l5 : World.cell? W ⟨w2.heap.size, 5, none⟩ = some (.slice rAI ris.length rcI) := cell_of_row _ _ 5 _ _ _ bl
        clear bl
        go_simp
        exact hK3 _ _ (Below.refl _ _) rfl
      | 10, ho =>
        cases ho
        simp [Region.binds] at hd
        have hbW := hJ.bel
        have v0 := hJ.val (by simp [hd] : L 0 = true) rfl fun _ h => h
        have v2 := hJ.val (by simp [hd] : L 2 = true) rfl fun _ h => h
        have l4 : L 4 = true := by simp [hd]
        obtain ⟨_, v4, A4, c4, rfl, hr4⟩ := hJ.has 4 41 l4 rfl
        have v5 := hJ.val (by simp [hd] : L 5 = true) rfl fun _ h => h
        have v7 := hJ.val (by simp [hd] : L 7 = true) rfl fun _ h => h
        have v9 := hJ.val (by simp [hd] : L 9 = true) rfl fun _ h => h
        clear hJ hd
        go_simp
        exact hK3 _ _ (Below.refl _ _) ⟨_, _, rfl, hr4⟩
      | 11, ho =>
        cases ho
        have hbW := hJ.bel
        clear hJ hd
        have hsz := hbW.size
        go_simp
        exact hK3 _ _ ((Below.refl _ _).alloc (Nat.le_refl _) _) ⟨_, rfl, by omega, heap_alloc_new _ _⟩
      | 12, _ => exact absurd rfl hqn
      | q + 13, ho => simp at ho
  intro V W hbW hV K3 hK3
  have v0 : V 0 = _ := hV 0 37 rfl
  have v1 : V 1 = _ := hV 1 38 rfl
  have v2 : V 2 = _ := hV 2 39 rfl
  have v3 : V 3 = _ := hV 3 40 rfl
  obtain ⟨A4, c4, v4, hr4⟩ : ∃ A c, V 4 = .slice A (s0.length) c ∧ W.ownsRow (wR.heap.size) 3 1 (.slice A (s0.length) c) (s0.length) (ints s0) := hV 4 41 rfl
  have v5 : V 5 = _ := hV 5 42 rfl
  have v6 : V 6 = _ := hV 6 43 rfl
  have v7 : V 7 = _ := hV 7 44 rfl
  have v8 : V 8 = _ := hV 8 45 rfl
  have v9 : V 9 = _ := hV 9 46 rfl
  obtain ⟨Ac10, cc10, v10, hr10⟩ : ∃ Ac cc, V 10 = .agg #[.int .i64 roots, .slice lAN lns.length lcN, .slice Ac s0.length cc, .int .i64 ed, .slice lAO outs.length lcO, .slice rAI ris.length rcI] ∧ W.ownsRow wR.heap.size 3 1 (.slice Ac s0.length cc) s0.length (ints s0) := hV 10 47 rfl
  obtain ⟨g11, v11, hr11⟩ : ∃ g : Nat, V 11 = .pointer (some ⟨g, 0, none⟩) ∧ wR.heap.size ≤ g ∧ W.heap[g]? = some (.cells #[.int .i64 0, .slice none 0 0, .slice none 0 0, .int .i64 0, .slice none 0 0, .slice none 0 0] 31) := hV 11 18 rfl
  clear hV
  have hgw := hr11.2
  have hgs := hr11.1
  obtain ⟨LX, hLX⟩ : ∃ LX, LX = (⟨a.roots, ed, .slice lAN lns.length lcN, .slice lAS a.sites.length lcS, .slice lAO outs.length lcO, .slice lAI lis.length lcI, lns, lls, a.sites, outs, lis⟩ : BX) := ⟨_, rfl⟩
  obtain ⟨RX, hRX⟩ : ∃ RX, RX = (⟨b.roots, ed, .slice rAN rns.length rcN, .slice rAS b.sites.length rcS, .slice rAO outs.length rcO, .slice rAI ris.length rcI, rns, rls, b.sites, outs, ris⟩ : BX) := ⟨_, rfl⟩
  have hlo := HLO.out W hbW
  have hro := HRO.out W hbW
  rw [← hLX] at hlo
  rw [← hRX] at hro
  have hj0 := JN.start0 (wR := wR) (W := W) (w1s := wL.heap.size) (B := w0.heap.size) (P := g11) (L := LX) (R := RX) (ro := roots) (ed := ed) (os := outs) (s0 := s0) (f := movedG a place) (sv := (.slice Ac10 s0.length cc10)) hlo hro (fun i l q hl hq => by have h := HL.out.ob; rw [← hLX] at h; obtain ⟨x, _, hx⟩ := h.N.lkown hl; have := (hx.lt q hq).2; have := HSZ.out; omega) (fun q hq => by have h := HL.out.ob; rw [← hLX] at h; have := (h.N.own.lt q hq).2; have := HSZ.out; omega) (fun q hq => by have h := HR.out.ob; rw [← hRX] at h; have := (h.N.own.lt q hq).2; have := HB2R.out.size; omega) (fun i l q hl hq => by have h := HR.out.ob; rw [← hRX] at h; obtain ⟨x, _, hx⟩ := h.N.lkown hl; have := (hx.lt q hq).2; have := HB2R.out.size; omega) hr10 ⟨by have := HSZ.out; omega, HSZ.out.2.2⟩ hgs hgw hbW (by rw [hLX])
  have HJF := Lib.hid hj0.fill
  have HRW := Lib.hid (HRB.out W hbW)
  have HGS := Lib.hid hgs
  have HLX := Lib.hid hLX
  have HRX := Lib.hid hRX
  have HLXO := Lib.hid (show LX.ov = .slice lAO outs.length lcO from by rw [hLX])
  have HLXN := Lib.hid (show LX.nv = .slice lAN lns.length lcN from by rw [hLX])
  have HRXI := Lib.hid (show RX.iv = .slice rAI ris.length rcI from by rw [hRX])
  have HRXN := Lib.hid (show RX.nv = .slice rAN rns.length rcN from by rw [hRX])
  have HLNS2 := Lib.hid (show LX.ns = lns from by rw [hLX])
  have HRNS2 := Lib.hid (show RX.ns = rns from by rw [hRX])
  have HRLS2 := Lib.hid (show RX.is = ris from by rw [hRX])
  obtain ⟨z0, z1, z2, z3, z4, z5, f0, f1, f2, f3, f4, f5⟩ := row6f hgw
  have hne : w2.heap.size ≠ g11 := by have h1 := (Array.getElem?_eq_some_iff.1 (HRB.out wR (Below.refl _ _))).1; omega
  have HRK := Lib.hid (fun (u0 u1 u2 u3 u4 u5 : Value) => set6_block (u0 := u0) (u1 := u1) (u2 := u2) (u3 := u3) (u4 := u4) (u5 := u5) hne (HRB.out W hbW))
  clear hne hgw hgs hr11 hr10 hr4 hbW hlo hro hj0 hLX hRX
  simp only [layV, List.setIfInBounds_toArray, List.set_cons_zero, List.set_cons_succ, v0, v1, v2, v3, v4, v5, v6, v7, v8, v9, v10, v11] at hK3 ⊢
  clear v0 v1 v2 v3 v4 v5 v6 v7 v8 v9 v10 v11
  refine ⟨?_⟩
  go_simp
  refine hK3 _ ?_
  clear hK3 K3
  refine pull_world (T := fun W2 => JN wR wL.heap.size w0.heap.size g11 LX RX roots ed outs s0 (movedG a place) (.slice lAN lns.length lcN) (.slice Ac10 s0.length cc10) 0 [] (JX LX RX roots ed outs s0 (movedG a place) (.slice lAN lns.length lcN) (.slice Ac10 s0.length cc10) 0 []).cells W2 ∧ W2.heap[w2.heap.size]? = some (.cells #[.int .i64 b.roots, .slice rAN rns.length rcN, .slice rAS b.sites.length rcS, .int .i64 ed, .slice rAO outs.length rcO, .slice rAI ris.length rcI] 31)) ⟨by have h := HJF.out; rw [HLXO.out, HLXN.out, HRXI.out] at h; exact h, HRK.out _ _ _ _ _ _⟩ ?_
  rintro W2 ⟨hj, hrb⟩
  clear HJF HRK z0 z1 z2 z3 z4 z5 f0 f1 f2 f3 f4 f5
  have HJ0 := Lib.hid hj
  have l1 : World.cell? W2 ⟨w2.heap.size, 1, none⟩ = some (.slice rAN rns.length rcN) := cell_of_row _ _ 1 _ _ _ hrb
  clear hj hrb
  go_wp2_with fail
  clear l1
  have HKB := Lib.hid (show ∀ W bx X, GT wR w0.heap.size g11 bx X W → Below w0.heap.size w0 W from fun W bx X h => below_kept HBR.out h.k (fun q hq => by have := HSZ.out; have := HGS.out; rcases hq with hq | hq <;> omega) HBR.out.size)
  have HRL := Lib.hid (show ∀ x ∈ rns, (∃ y ∈ b.nodes, y.2.1 = x.2.1) ∧ x.2.2.length ≤ 1000 from fun x hx => by
    rw [HRNS.out] at hx
    refine ⟨rel_par hx, ?_⟩
    obtain ⟨y, hy, rfl⟩ := List.mem_map.1 hx
    show (y.2.2.map _).length ≤ 1000
    rw [List.length_map]
    exact HSB.out.links y hy)
  have hrl : rns.length ≤ 1000 := by rw [HRNS.out]; show (b.nodes.map _).length ≤ 1000; rw [List.length_map]; exact hbn
  have hll : lns.length ≤ 1000 := by rw [HLNS.out]; show (a.nodes.map _).length ≤ 1000; rw [List.length_map]; exact han
  go_loopw [51] (fun i wr => ∃ (k : Nat) (nv : Value), k ≤ rns.length ∧ i = .int .i64 k ∧ JN wR wL.heap.size w0.heap.size g11 LX RX roots ed outs s0 (movedG a place) nv (.slice Ac10 s0.length cc10) k [] (JX LX RX roots ed outs s0 (movedG a place) nv (.slice Ac10 s0.length cc10) k []).cells wr)
    (fun i _ => rns.length - (intOf i).toNat)
  case atStart => exact ⟨0, _, Nat.zero_le _, rfl, HJ0.out⟩
  obtain ⟨k, nv, hk, rfl, hj⟩ := hrel
  clear HJ0
  by_cases hlt : k < rns.length
  · have hrn := hj.rn
    have hkx : RX.ns[k]? = some rns[k] := by rw [HRNS2.out]; exact List.getElem?_eq_getElem hlt
    obtain ⟨gr, cr, l, eR, hl, c0, c1, c2⟩ := hrn.nr.cells (i := k) (by rw [HRNS2.out]; exact hlt)
    have hlk := hrn.lk k l _ hl hkx
    obtain ⟨AL, cL, rfl, _⟩ := owns_form hlk
    rw [HRXN.out, HRNS2.out] at eR
    cases eR
    obtain ⟨x, hx⟩ : ∃ x, rns[k] = x := ⟨_, rfl⟩
    have hxm : x ∈ rns := by rw [← hx]; exact List.getElem_mem hlt
    have hgx : RX.ns[k]'(by rw [HRNS2.out]; exact hlt) = x := by
      have h := hkx
      rw [List.getElem?_eq_getElem (by rw [HRNS2.out]; exact hlt)] at h
      injection h with h
      exact h.trans hx
    rw [hgx] at c0 c1
    rw [hx] at hkx hl c2
    obtain ⟨ct, pa, lk⟩ := x
    replace c0 : World.cell? wr ⟨gr, k * 3, none⟩ = some (.int .i64 ct) := c0
    replace c1 : World.cell? wr ⟨gr, k * 3 + 1, none⟩ = some (.int .i64 pa) := c1
    replace c2 : World.cell? wr ⟨gr, k * 3 + 2, none⟩ = some (.slice AL lk.length cL) := c2
    replace hl : RX.ls[k]? = some (.slice AL lk.length cL) := hl
    obtain ⟨⟨y, hym, hyp⟩, hlkl⟩ := HRL.out _ hxm
    replace hyp : y.2.1 = pa := hyp
    replace hlkl : lk.length ≤ 1000 := hlkl
    have hpa : pa ≤ 1000000 := by rw [← hyp]; exact HPB.out.1 y hym
    have HPX := Lib.hid (show (∃ x ∈ b.nodes, x.2.1 = pa) ∨ pa ∈ b.sites from .inl ⟨y, hym, hyp⟩)
    have HKX := Lib.hid hkx
    have HLL2 := Lib.hid hl
    have b0 : (0 : Int) ≤ (k : Int) := by omega
    have b1 : (k : Int) < (rns.length : Int) := by omega
    obtain ⟨wo, hwo⟩ : ∃ wo, wo = wr := ⟨_, rfl⟩
    subst hwo
    obtain ⟨wn, hwn, hbn1, -, hnn⟩ := laid1 wo (.cells #[.int .i64 ct, .int .i64 pa, .slice AL lk.length cL] 88)
    have hjn := hj.lay hbn1
    have hbw := HKB.out wn _ _ hjn.gt
    have HBW := Lib.hid hbw
    have HJN := Lib.hid hjn
    have HNN := Lib.hid hnn
    have HWN := Lib.hid hwn
    have HSO := Lib.hid (show wR.heap.size ≤ wo.heap.size ∧ g11 < wo.heap.size ∧ (∀ q, nv.ownBlock = some q → q < wo.heap.size) from ⟨hj.gt.k.size, (Array.getElem?_eq_some_iff.1 hj.gt.box).1, fun q hq => (hj.gt.ob.N.own.lt q hq).2⟩)
    have hbxa := HXA.out wn hbw
    obtain ⟨xa0, xa1, xa2, xa3, xa4, xa5⟩ := row6 hbxa
    have n0 := cell_of_row _ _ 0 _ _ _ hnn
    have n1 := cell_of_row _ _ 1 _ _ _ hnn
    have n2 := cell_of_row _ _ 2 _ _ _ hnn
    have HMV := Lib.hid (moved_any a _ _ _ _ pa Fp capp place wn HSA.out hpa (HGA.out wn (HB0.out.trans (hbw.mono HB0.out.size))) hFp (fun W hneg hb => HPL.out pa W HPX.out hneg ((HB0.out.trans (HBW.out.mono HB0.out.size)).trans (hb.mono (HB0.out.trans (HBW.out.mono HB0.out.size)).size))))
    clear hj hrn hkx hl hlk hx hxm hgx hym hyp hbn1 hnn hjn hbw hbxa
    rw [hwn] at xa0 xa1 xa2 xa3 xa4 xa5 n0 n1 n2
    clear hwn
    go_wp2_with fail
    rw [← HWN.out]
    (with_reducible refine HMV.out.mono ?_)
    rintro r w3 ⟨rfl, hb3⟩
    have hjn := HJN.out.lay hb3
    have hnn := (hb3.block _ (Array.getElem?_eq_some_iff.1 HNN.out).1).trans HNN.out
    obtain ⟨pm, hpm⟩ : ∃ pm, pm = movedG a place pa := ⟨_, rfl⟩
    rw [← hpm]
    have HPM := Lib.hid hpm
    have n0 := cell_of_row _ _ 0 _ _ _ hnn
    have n1 := cell_of_row _ _ 1 _ _ _ hnn
    have n2 := cell_of_row _ _ 2 _ _ _ hnn
    have fn := frozen_of_row w3 _ 1 _ _ hnn
    have hj4 := hjn.box (o := 1) hnn rfl HSO.out.1 (by have := HSO.out.2.1; omega) (fun q hq => by have := HSO.out.2.2 q hq; omega) (.int .i64 pm)
    have hn4 := heap_setCell_same w3 wo.heap.size 1 _ _ (.int .i64 pm) hnn
    have HJ4 := Lib.hid hj4
    have HN4 := Lib.hid hn4
    clear hb3 hjn hnn hpm hj4 hn4 xa0 xa1 xa2 xa3 xa4 xa5 HMV c0 c1 c2
    go_upto_region 9 with fail
    refine pull_world (T := fun W2 => JN wR wL.heap.size w0.heap.size g11 LX RX roots ed outs s0 (movedG a place) nv (.slice Ac10 s0.length cc10) k [] (JX LX RX roots ed outs s0 (movedG a place) nv (.slice Ac10 s0.length cc10) k []).cells W2 ∧ W2.heap[wo.heap.size]? = some (.cells #[.int .i64 ct, .int .i64 pm, .slice AL lk.length cL] 88)) ⟨HJ4.out, HN4.out⟩ ?_
    rintro w4 ⟨hj, hnn⟩
    clear n0 n1 n2 fn HJ4 HN4
    have hN := JX_N hj.gt.ob (by rw [HRNS2.out]; exact hk)
    obtain ⟨AN, cN, rfl, hN⟩ := owns_form hN
    have n0 := cell_of_row _ _ 0 _ _ _ hnn
    have n1 := cell_of_row _ _ 1 _ _ _ hnn
    have n2 := cell_of_row _ _ 2 _ _ _ hnn
    rw [HLNS2.out] at hN hj
    have HN := Lib.hid hN
    have z1 := hj.gt.cell (f := 1) (u := .slice AN (lns.length + k) cN) rfl
    have HJ := Lib.hid hj
    have hszB : w0.heap.size ≤ w4.heap.size := by have := hj.gt.k.size; have := HSZ.out; omega
    clear hj hN hnn
    go_wp2_with (at_builtin; refine wpList_app el_nodO rfl _ _ rfl w0.heap.size _ _ _ rfl HN.out [.int .i64 ct, .int .i64 pm, .slice AL lk.length cL] rfl rfl rfl (node_one _ _ _ _ _) (by omega) hszB ?_; intro v2 w5 ho hk2 hm2; have HJ5 := Lib.hid (JN.next HJ.out (x := (ct, pa, lk)) (l := .slice AL lk.length cL) HKX.out HLL2.out (by rw [HLNS2.out]; show w5.ownsRow _ _ _ v2 _ (_ ++ [.int .i64 ct, .int .i64 (movedG a place pa), .slice AL lk.length cL]); rw [← HPM.out]; exact ho) hk2 hm2); obtain ⟨Av, cv, rfl, ho⟩ := owns_form ho; have z1 := HJ5.out.gt.cell (f := 1) (u := .slice AN (lns.length + k) cN) rfl; have f1 := frozen_of_row w5 g11 1 _ _ HJ5.out.gt.box; clear ho hk2 hm2)
    have HJ6 := Lib.hid (HJ5.out.put 1 (.slice Av (lns.length + k + 1) cv))
    go_wp2_with fail
    go_roundw
    case rel => exact ⟨k + 1, _, by omega, by go_num, HJ6.out⟩
    case measure => simp [intOf]; omega
  obtain rfl : rns.length = k := by omega
  have hN := JX_N hj.gt.ob (by rw [HRNS2.out]; exact Nat.le_refl _)
  obtain ⟨AN, cN, rfl, _⟩ := owns_form hN
  rw [HLNS2.out] at hj
  have hbw := HKB.out wr _ _ hj.gt
  have hbxb := HXB.out wr hbw
  have xb2 := cell_of_row _ _ 2 _ _ _ hbxb
  have HJ0 := Lib.hid hj
  clear hj hN hbw hbxb
  go_wp2_with fail
  clear xb2
  obtain ⟨wq, hwq⟩ : ∃ wq, wq = wr := ⟨_, rfl⟩
  subst hwq
  go_loopw [71] (fun i wr => ∃ (k : Nat) (sv : Value), k ≤ b.sites.length ∧ i = .int .i64 k ∧ JN wR wL.heap.size w0.heap.size g11 LX RX roots ed outs s0 (movedG a place) (.slice AN (lns.length + rns.length) cN) sv rns.length ((b.sites.take k).map (movedG a place)) (JX LX RX roots ed outs s0 (movedG a place) (.slice AN (lns.length + rns.length) cN) sv rns.length ((b.sites.take k).map (movedG a place))).cells wr)
    (fun i _ => b.sites.length - (intOf i).toNat)
  case atStart => exact ⟨0, _, Nat.zero_le _, rfl, HJ0.out⟩
  obtain ⟨k, sv, hk, rfl, hj⟩ := hrel
  clear HJ0
  have hsl : ((b.sites.take k).map (movedG a place)).length = k := by rw [List.length_map, List.length_take]; omega
  have hS := JX_S hj.gt.ob hsl
  obtain ⟨AS2, cS2, rfl, _⟩ := owns_form hS
  have hbw := HKB.out wr _ _ hj.gt
  by_cases hlt : k < b.sites.length
  · obtain ⟨A', c', eS, hcS⟩ := (HGB.out wr (HB0.out.trans (hbw.mono HB0.out.size))).s
    cases eS
    obtain ⟨bs, os, rfl, hc⟩ := hcS.int hlt
    have k0 := hc k hlt
    obtain ⟨p, hp⟩ : ∃ p, p = b.sites.getD k 0 := ⟨_, rfl⟩
    rw [← hp] at k0
    have hpm : p ∈ b.sites := by rw [hp]; simp [List.getD, hlt]
    have hpa : p ≤ 1000000 := HPB.out.2 p hpm
    have HPX := Lib.hid (show (∃ x ∈ b.nodes, x.2.1 = p) ∨ p ∈ b.sites from .inr hpm)
    obtain ⟨pm, hpm2⟩ : ∃ pm, pm = movedG a place p := ⟨_, rfl⟩
    have HPM := Lib.hid hpm2
    have HTK := Lib.hid (show (b.sites.take (k + 1)).map (movedG a place) = (b.sites.take k).map (movedG a place) ++ [pm] from by rw [List.take_succ_eq_append_getElem hlt, List.map_append, hpm2, hp]; simp [List.getD, hlt])
    have HSL := Lib.hid hsl
    have HJ := Lib.hid hj
    have b0 : (0 : Int) ≤ (k : Int) := by omega
    have b1 : (k : Int) < (b.sites.length : Int) := by omega
    obtain ⟨ss, hss⟩ : ∃ ss, ss = (b.sites.take k).map (movedG a place) := ⟨_, rfl⟩
    rw [← hss] at HJ HTK HSL
    clear hj hS hsl hcS hc hp hpm hpm2 hbw hss
    go_wp2_with fail
    refine wp_region_ph (by kernel_rfl) [some 75, some 76, some 77, some 78, some 79, some 80, some 81, some 82, some 83, none] (fun q v => match q with | 0 => v = .pointer (some ⟨g11, 2, none⟩) | 1 => v = .slice AS2 (s0.length + k) cS2 | 2 => v = .agg #[.int .i64 a.roots, .slice ANa a.nodes.length cNa, .slice ASa a.sites.length cSa, .int .i64 a.edges, .slice AOa a.outer.length cOa, .slice AIa a.inner.length cIa] | 3 => v = .int .i64 p | 4 => v = .func (.func Fp) #[] capp | 5 => v = .int .i64 pm | 6 => ∃ gz, v = .slice (some ⟨gz, 0, none⟩) 1 1 | 7 => True | 8 => v = .pointer (some ⟨g11, 2, none⟩) | 9 => True | _ => True) (fun q v W => match q with | 0 => True | 1 => True | 2 => True | 3 => True | 4 => True | 5 => True | 6 => ∀ g, v = .slice (some ⟨g, 0, none⟩) 1 1 → 0 ≤ g ∧ W.heap[g]? = some (.cells #[.int .i64 pm] 3) | 7 => True | 8 => True | 9 => True | _ => True) (fun W W' => Below W.heap.size W W') 7 9 (fun kk W => JN wR wL.heap.size w0.heap.size g11 LX RX roots ed outs s0 (movedG a place) (.slice AN (lns.length + rns.length) cN) (.slice AS2 (s0.length + k) cS2) rns.length ss (JX LX RX roots ed outs s0 (movedG a place) (.slice AN (lns.length + rns.length) cN) (.slice AS2 (s0.length + k) cS2) rns.length ss).cells W) (fun v W => (∃ A2 c2, v = .slice A2 (s0.length + k + 1) c2) ∧ JN wR wL.heap.size w0.heap.size g11 LX RX roots ed outs s0 (movedG a place) (.slice AN (lns.length + rns.length) cN) v rns.length (ss ++ [pm]) (JX LX RX roots ed outs s0 (movedG a place) (.slice AN (lns.length + rns.length) cN) (.slice AS2 (s0.length + k) cS2) rns.length ss).cells W) (fun v W => (∃ A2 c2, v = .slice A2 (s0.length + k + 1) c2) ∧ JN wR wL.heap.size w0.heap.size g11 LX RX roots ed outs s0 (movedG a place) (.slice AN (lns.length + rns.length) cN) v rns.length (ss ++ [pm]) (JX LX RX roots ed outs s0 (movedG a place) (.slice AN (lns.length + rns.length) cN) v rns.length (ss ++ [pm])).cells W) (by kernel_rfl) (by kernel_rfl) (by kernel_rfl) (by decide) (by decide) ?m2o ?r2s ?h20 ?s2t ?f2i
    case m2o => exact fun k k' W h hd => hd
    case r2s =>
      intro q v W W' ht h
      match q, h with
      | 0, h | 1, h | 2, h | 3, h | 4, h | 5, h | 7, h | 8, h | 9, h => exact h
      | 6, h => exact fun g e => ⟨(h g e).1, (ht.block g (Array.getElem?_eq_some_iff.1 (h g e).2).1).trans (h g e).2⟩
      | q + 10, _ => trivial
    case h20 => exact HJ.out.lay ((Below.refl _ _).drew)
    case s2t =>
      as_aux_lemma =>
        intro L act W q oo hJ hL hA hS ho hd K3 hK3
        match q, ho with
        | 0, ho | 8, ho =>
          cases ho
          have a18 : act.tmps[18]? = some _ := hJ.out 18 (by decide)
          clear hJ hd
          go_simp
          exact hK3 _ _ (.same (by decide) (by decide) rfl rfl (fun _ => trivial))
        | 1, ho =>
          cases ho
          simp [Region.binds] at hd
          have v0 := hJ.val (by simp [hd] : L 0 = true) rfl fun _ h => h
          have hn : L 7 = false := hA (by kernel_rfl)
          have hD := hJ.d hn
          have z2 := hD.gt.cell (f := 2) (u := (.slice AS2 (s0.length + k) cS2)) rfl
          have HD := Lib.hid hD
          clear hD hJ hd
          go_simp
          exact hK3 _ _ (.same (by decide) (by decide) rfl rfl (fun _ => trivial))
        | 2, ho =>
          cases ho
          have a7 : act.tmps[7]? = some _ := hJ.out 7 (by decide)
          have hn : L 7 = false := hA (by kernel_rfl)
          have hD := hJ.d hn
          have bxa := HXA.out W (HKB.out W _ _ hD.gt)
          obtain ⟨x0, x1, x2, x3, x4, x5⟩ := row6 bxa
          clear bxa
          have HD := Lib.hid hD
          clear hD hJ hd
          go_simp
          exact hK3 _ _ (.same (by decide) (by decide) rfl rfl (fun _ => trivial))
        | 3, ho =>
          cases ho
          have a22 : act.tmps[22]? = some _ := hJ.out 22 (by decide)
          clear hJ hd
          go_simp
          exact hK3 _ _ (.same (by decide) (by decide) rfl rfl (fun _ => trivial))
        | 4, ho =>
          cases ho
          have a5 : act.tmps[5]? = some _ := hJ.out 5 (by decide)
          clear hJ hd
          go_simp
          exact hK3 _ _ (.same (by decide) (by decide) rfl rfl (fun _ => trivial))
        | 5, ho =>
          cases ho
          simp [Region.binds] at hd
          have v2 := hJ.val (by simp [hd] : L 2 = true) rfl fun _ h => h
          have v3 := hJ.val (by simp [hd] : L 3 = true) rfl fun _ h => h
          have v4 := hJ.val (by simp [hd] : L 4 = true) rfl fun _ h => h
          have hn : L 7 = false := hA (by kernel_rfl)
          have hD := hJ.d hn
          have HD := Lib.hid hD
          clear hJ hd hD
          go_simp
          go_at_call 222
          refine (moved_any a _ _ _ _ p Fp capp place W HSA.out hpa (HGA.out W (HB0.out.trans ((HKB.out W _ _ HD.out.gt).mono HB0.out.size))) hFp (fun W2 hneg hb => HPL.out p W2 HPX.out hneg ((HB0.out.trans ((HKB.out W _ _ HD.out.gt).mono HB0.out.size)).trans (hb.mono (HB0.out.trans ((HKB.out W _ _ HD.out.gt).mono HB0.out.size)).size)))).mono ?_
          rintro e W' ⟨rfl, hb⟩
          rw [← HPM.out]
          go_simp
          exact hK3 _ _ (.lay (by decide) (by decide) rfl hn (hb) trivial (HD.out.lay hb))
        | 6, ho =>
          cases ho
          simp [Region.binds] at hd
          have v5 := hJ.val (by simp [hd] : L 5 = true) rfl fun _ h => h
          have hn : L 7 = false := hA (by kernel_rfl)
          have hD := hJ.d hn
          have HD := Lib.hid hD
          clear hJ hd hD
          go_simp
          exact hK3 _ _ (.lay (by decide) (by decide) ⟨_, rfl⟩ hn ((Below.refl _ _).alloc (Nat.le_refl _) _) (fun g e => by injection e with e1; injection e1 with e2; injection e2 with e3; subst e3; exact ⟨Nat.zero_le _, heap_alloc_new _ _⟩) (HD.out.lay ((Below.refl _ _).alloc (Nat.le_refl _) _)))
        | 7, ho =>
          cases ho
          simp [Region.binds] at hd
          have v1 := hJ.val (by simp [hd] : L 1 = true) rfl fun _ h => h
          have l6 : L 6 = true := by simp [hd]
          obtain ⟨u6, v6, ⟨gz, rfl⟩, hr6⟩ := hJ.has 6 81 l6 rfl
          have hn : L 7 = false := hA (by kernel_rfl)
          have hD := hJ.d hn
          obtain ⟨hg1, hg2⟩ := hr6 hn gz rfl
          clear hJ hd
          refine step_appM el_intG rfl (.tmp 76) (.tmp 81) rfl w0.heap.size ((.slice AS2 (s0.length + k) cS2)) (s0.length + k) ((ints (s0 ++ ss))) (by simp [Act.eval, *]) (JX_S hD.gt.ob HSL.out) ⟨gz, 0, none⟩ 1 1 [.int .i64 pm] (by simp [Act.eval, *]) (by decide) rfl (fun j' u' hj' => by rw [show (⟨gz, 0, none⟩ : Addr).add j' = ⟨gz, j', none⟩ from by simp [Addr.add, eq_comm], cell_of_row W gz _ _ _ _ hg2]; simpa using hj') (one1 rfl) (by omega) (by have := hD.gt.k.size; have := HSZ.out; omega) ?_
          intro v' W' ho hk hm
          exact hK3 _ _ (.app rfl (by decide) trivial (⟨by obtain ⟨A2, c2, e, _⟩ := owns_form ho; exact ⟨A2, c2, e⟩, hD.nextS HSL.out ho hk hm⟩))
        | 9, ho =>
          cases ho
          simp [Region.binds] at hd
          have v8 := hJ.val (by simp [hd] : L 8 = true) rfl fun _ h => h
          have l7 : L 7 = true := by simp [hd]
          obtain ⟨u, hu, hE⟩ := hJ.e l7 hL
          have v7 := hu 82 rfl
          clear hJ hd
          obtain ⟨⟨A2, c2, rfl⟩, hE⟩ := hE
          have z2 := hE.gt.cell (f := 2) (u := (.slice AS2 (s0.length + k) cS2)) rfl
          have f2 := frozen_of_row W g11 2 _ _ hE.gt.box
          have HFF := Lib.hid ((⟨⟨A2, c2, rfl⟩, hE.put 2 _⟩ : (∃ A2 c2, _ = Value.slice A2 (s0.length + k + 1) c2) ∧ JN wR wL.heap.size w0.heap.size g11 LX RX roots ed outs s0 (movedG a place) (.slice AN (lns.length + rns.length) cN) (.slice A2 (s0.length + k + 1) c2) rns.length (ss ++ [pm]) (JX LX RX roots ed outs s0 (movedG a place) (.slice AN (lns.length + rns.length) cN) (.slice A2 (s0.length + k + 1) c2) rns.length (ss ++ [pm])).cells _))
          clear hE
          go_simp
          exact hK3 undef _ (.store rfl (by decide) trivial _ hu HFF.out)
        | q + 10, ho => simp at ho
    intro V W hF hV
    obtain ⟨v, hv, hF⟩ := hF
    have v7 : V 7 = v := hv 82 rfl
    have v0 : V 0 = _ := hV 0 75 rfl
    have v1 : V 1 = _ := hV 1 76 rfl
    have v2 : V 2 = _ := hV 2 77 rfl
    have v3 : V 3 = _ := hV 3 78 rfl
    have v4 : V 4 = _ := hV 4 79 rfl
    have v5 : V 5 = _ := hV 5 80 rfl
    obtain ⟨gz6, v6⟩ : ∃ gz, V 6 = .slice (some ⟨gz, 0, none⟩) 1 1 := hV 6 81 rfl
    have v8 : V 8 = _ := hV 8 83 rfl
    clear hV hv
    simp only [layV, List.setIfInBounds_toArray, List.set_cons_zero, List.set_cons_succ, v0, v1, v2, v3, v4, v5, v6, v8, v7]
    clear v0 v1 v2 v3 v4 v5 v6 v8 v7
    obtain ⟨⟨A2, c2, rfl⟩, hJ⟩ := hF
    rw [← HTK.out] at hJ
    have HG2 := Lib.hid hJ
    clear hJ
    go_wp2_with fail
    go_roundw
    case rel => exact ⟨k + 1, _, by omega, by go_num, HG2.out⟩
    case measure => simp [intOf]; omega
  obtain rfl : b.sites.length = k := by omega
  clear hsl
  have HJ := Lib.hid hj
  have hg := hj.gt
  clear hj hS
  have hlx := HLX.out
  have hrx := HRX.out
  subst hlx hrx
  have y0 := hg.cell (f := 0) (u := .int .i64 roots) rfl
  have y1 := hg.cell (f := 1) (u := .slice AN (lns.length + rns.length) cN) rfl
  have y2 := hg.cell (f := 2) (u := .slice AS2 (s0.length + b.sites.length) cS2) rfl
  have y3 := hg.cell (f := 3) (u := .int .i64 ed) rfl
  have y4 := hg.cell (f := 4) (u := .slice lAO outs.length lcO) rfl
  have y5 := hg.cell (f := 5) (u := .slice rAI ris.length rcI) rfl
  have HG := Lib.hid hg
  have hrw := HRR.out wr hbw
  obtain ⟨z0, z1, z2, z3, z4, z5, f0, f1, f2, f3, f4, f5⟩ := row6f hrw
  have HBW := Lib.hid hbw
  clear hg hrw hbw
  go_wp2_with fail
  have hsz0 := HS0.out
  have hf := fin6R (X := (JX (⟨a.roots, ed, .slice lAN lns.length lcN, .slice lAS a.sites.length lcS, .slice lAO outs.length lcO, .slice lAI lis.length lcI, lns, lls, a.sites, outs, lis⟩ : BX) (⟨b.roots, ed, .slice rAN rns.length rcN, .slice rAS b.sites.length rcS, .slice rAO outs.length rcO, .slice rAI ris.length rcI, rns, rls, b.sites, outs, ris⟩ : BX) roots ed outs s0 (movedG a place) (.slice AN (lns.length + rns.length) cN) (.slice AS2 (s0.length + b.sites.length) cS2) rns.length ((b.sites.take b.sites.length).map (movedG a place)))) (w.heap.size + 1 + 1 + 1) HB0.out (by omega) HR0.out ((Kept.of_below HBR.out (fun q => w.heap.size + 1 + 1 + 1 + 1 ≤ q)).trans (HG.out.k.mono fun q hq => by have := HSZ.out; have := HGS.out; rcases hq with hq | hq <;> omega)) (HG.out.ob.mono (by omega))
  (try simp only [Exit.inBlock, Exit.then])
  refine bodyPost_ret (results_cell_row rfl _ _ (w.heap.size + 1 + 1 + 1) _ _ _ _ rfl hf.1 Tryz.underlying31 rfl (by kernel_rfl)) rfl ?_
  exact ⟨_, rfl, by
    show (⟨roots, lns ++ (rns.take rns.length).map (mvN (movedG a place)), s0 ++ (b.sites.take b.sites.length).map (movedG a place), ed, outs, ris⟩ : Gr) = _
    rw [List.take_length, List.take_length, HLNS.out, HRNS.out, HRIS.out, HOT.out, HED.out]
    rfl, hf.2⟩

end Go.Proofs.YtijkdpdmclkmlaaGreatDoor
