/- The reference: a bigraph put under the sites of another one: walked. -/
import Derived.Test.YtijkdpdmclkmlaaGreatDoorProg
import Derived.Test.YtijkdpdmclkmlaaGreatDoorJ36
import Derived.Test.YtijkdpdmclkmlaaGreatDoorJ16
import Derived.Test.YtijkdpdmclkmlaaGreatDoorJ30
import Derived.BigQuiet
import Derived.IntWalk
import Derived.Test.YtijkdpdmclkmlaaGreatDoorJ38
set_option linter.unusedSimpArgs false
set_option linter.unusedVariables false
set_option maxRecDepth 100000
set_option maxHeartbeats 16000000
namespace Go.Proofs.YtijkdpdmclkmlaaGreatDoor
open Go.RowKit
theorem edges_int (f n : Int) (w : World) (hf : -1000000 ≤ f ∧ f ≤ 1000000) (h0 : 0 ≤ n) (hn : n ≤ 1000000) :
  Calls Tryz.prog 211 #[.int .i64 f, .int .i64 n] w fun e w' => ∃ A c, e = .returned (.slice A (edgesL f n).length c) ∧ w'.ownsRow w.heap.size 3 1 (.slice A (edgesL f n).length c) (edgesL f n).length (ints (edgesL f n)) ∧ Below w.heap.size w w' := by
 obtain ⟨k, rfl⟩ := Int.eq_ofNat_of_zero_le h0
 refine (l4Edges_any f k w hf (by omega)).mono ?_
 rintro e W' ⟨u, rfl, ho, hb⟩
 have hl : (edgesL f (k : Int)).length = k := by rw [edges_len]; simp
 rw [hl]
 obtain ⟨A, c, rfl, ho⟩ := owns_form ho
 exact ⟨A, c, rfl, ho, hb⟩
theorem roots_len (f n : Int) : (rootsL f n).length = n.toNat := by simp [rootsL]
theorem roots_int (f n : Int) (w : World) (hf : -1000000 ≤ f ∧ f ≤ 1000000) (h0 : 0 ≤ n) (hn : n ≤ 1000000) :
  Calls Tryz.prog 247 #[.int .i64 f, .int .i64 n] w fun e w' => ∃ A c, e = .returned (.slice A (rootsL f n).length c) ∧ w'.ownsRow w.heap.size 3 1 (.slice A (rootsL f n).length c) (rootsL f n).length (ints (rootsL f n)) ∧ Below w.heap.size w w' := by
 obtain ⟨k, rfl⟩ := Int.eq_ofNat_of_zero_le h0
 refine (l4Roots_any f k w hf (by omega)).mono ?_
 rintro e W' ⟨u, rfl, ho, hb⟩
 have hl : (rootsL f (k : Int)).length = k := by rw [roots_len]; simp
 rw [hl]
 obtain ⟨A, c, rfl, ho⟩ := owns_form ho
 exact ⟨A, c, rfl, ho, hb⟩
theorem good_bound {sig : List Ct} {g : Gr} (h : GoodP sig g) {p : Int} {k : Nat} (hu : UnderP sig g p k) (hk : k ≤ g.nodes.length) : (-1000000 ≤ p ∧ p ≤ 1000000) ∧ (p < 0 → -1 - p < g.roots) := by
 have h8 := h.n8
 have hr := h.r
 by_cases h0 : p < 0
 ·have := hu.1 h0
  exact ⟨by omega, fun _ => by omega⟩
 have := (hu.2 (by omega)).1
 exact ⟨by omega, fun h => absurd h h0⟩
theorem good_nodes {sig : List Ct} {g : Gr} (h : GoodP sig g) {n : Nat} (hn : g.roots = n) : ∀ x ∈ g.nodes, (-1000000 ≤ x.2.1 ∧ x.2.1 ≤ 1000000) ∧ (x.2.1 < 0 → -1 - x.2.1 < n) := fun x hx => by
 obtain ⟨i, hi, rfl⟩ := List.getElem_of_mem hx
 rw [← hn]
 exact good_bound h (h.nod i _ (List.getElem?_eq_getElem hi)).2.1 (by omega)
theorem good_sites {sig : List Ct} {g : Gr} (h : GoodP sig g) {n : Nat} (hn : g.roots = n) : ∀ p ∈ g.sites, (-1000000 ≤ p ∧ p ≤ 1000000) ∧ (p < 0 → -1 - p < n) := fun p hp => by
 rw [← hn]
 exact good_bound h (h.sit p hp) (Nat.le_refl _)
theorem good_lk {sig : List Ct} {g : Gr} (h : GoodP sig g) {n : Nat} (hn : g.edges + g.outer.length = n) : (∀ x ∈ g.nodes, ∀ l ∈ x.2.2, 0 ≤ l ∧ l < n) ∧ ∀ x ∈ g.inner, 0 ≤ x.2 ∧ x.2 < n := by
 rw [← hn]
 exact good_links h
theorem l4Sites_n (g : Gr) (nv sv ov iv : Value) (by_ : Int) (A : Option Addr) (c : Nat) (ps : List Int) (w : World) (hs : SmallG g) (hb : -1000000 ≤ by_ ∧ by_ ≤ 1000000) (hl : ∀ p ∈ g.sites, (-1000000 ≤ p ∧ p ≤ 1000000) ∧ (p < 0 → -1 - p < ps.length)) (hA : Cells w A (ints ps)) (hG : RGr w nv sv ov iv g) :
  Calls Tryz.prog 165 #[.agg #[.int .i64 g.roots, nv, sv, .int .i64 g.edges, ov, iv], .int .i64 by_, .slice A ps.length c] w fun e w' => ∃ A c, e = .returned (.slice A (g.sites.map (parentS by_ ps)).length c) ∧ w'.ownsRow w.heap.size 3 1 (.slice A (g.sites.map (parentS by_ ps)).length c) (g.sites.map (parentS by_ ps)).length (ints (g.sites.map (parentS by_ ps))) ∧ Below w.heap.size w w' := by
 refine (l4Sites_any g nv sv ov iv by_ A c ps w hs hb hl hA hG).mono ?_
 rintro e W' ⟨u, rfl, ho, hb⟩
 rw [show g.sites.length = (g.sites.map (parentS by_ ps)).length from by rw [List.length_map]] at ho
 obtain ⟨A, c, rfl, ho⟩ := owns_form ho
 exact ⟨A, c, rfl, ho, hb⟩
theorem NT.shape {W : World} {N : Nat} {nv sv : Value} {ns : List Nod} {ls : List Value} (h : NT W N nv sv ns ls) : ∃ A c, nv = .slice A ns.length c := by
 obtain ⟨A, c, h1, _⟩ := owns_form h.own
 exact ⟨A, c, h1⟩
theorem wires_len (g : Gr) (links : List Int) : (wiresS g links).length = g.inner.length := by simp [wiresS]
theorem nodes_len (g : Gr) (by_ : Int) (ps links : List Int) : (nodesS g by_ ps links).length = g.nodes.length := by simp [nodesS]
theorem l4Under_any (sig : List Ct) (a b : Gr) (nva sva ova iva nvb svb ovb ivb : Value) (O A B : Option Addr) (co ca cb : Nat) (outer : List ByteArray) (above below : List Int) (w : World) (hsa : SmallG a) (hsb : SmallG b) (ha : GoodP sig a) (hb : GoodP sig b) (hsr : b.roots = a.sites.length) (hab : above.length = a.outer.length) (hbe : below.length = b.outer.length) (hol : outer.length ≤ 1000) (hO : Cells w O (strs outer)) (hA : Cells w A (ints above)) (hB : Cells w B (ints below)) (hGa : RGr w nva sva ova iva a) (hGb : RGr w nvb svb ovb ivb b) :
  Calls Tryz.prog 224 #[.agg #[.int .i64 a.roots, nva, sva, .int .i64 a.edges, ova, iva], .agg #[.int .i64 b.roots, nvb, svb, .int .i64 b.edges, ovb, ivb], .slice O outer.length co, .slice A above.length ca, .slice B below.length cb] w fun e w' => ∃ X : BX, e = .returned (.agg X.cells) ∧ X.g = underG a b outer above below ∧ RG w w' X := by
 have HGA := Lib.hid (show ∀ W, Below w.heap.size w W → RGr W nva sva ova iva a from fun W hb => hGa.below hb)
 have HGB := Lib.hid (show ∀ W, Below w.heap.size w W → RGr W nvb svb ovb ivb b from fun W hb => hGb.below hb)
 obtain ⟨ANa, cNa, ASa, cSa, AOa, cOa, AIa, cIa, rfl, rfl, rfl, rfl⟩ := hGa.form
 obtain ⟨ANb, cNb, ASb, cSb, AOb, cOb, AIb, cIb, rfl, rfl, rfl, rfl⟩ := hGb.form
 obtain ⟨w0, hw0, hb0, hs0, bxa0, bxb0, hR0⟩ := laid3 w (.cells #[.int .i64 a.roots, .slice ANa a.nodes.length cNa, .slice ASa a.sites.length cSa, .int .i64 a.edges, .slice AOa a.outer.length cOa, .slice AIa a.inner.length cIa] 31) (.cells #[.int .i64 b.roots, .slice ANb b.nodes.length cNb, .slice ASb b.sites.length cSb, .int .i64 b.edges, .slice AOb b.outer.length cOb, .slice AIb b.inner.length cIb] 31) (.cells #[.int .i64 0, .slice none 0 0, .slice none 0 0, .int .i64 0, .slice none 0 0, .slice none 0 0] 31)
 have HRR := Lib.hid (keepB hR0)
 have HXA := Lib.hid (keepB bxa0)
 have HXB := Lib.hid (keepB bxb0)
 have HB0 := Lib.hid hb0
 have HW0 := Lib.hid hw0
 have HOC := Lib.hid (show ∀ W, Below w.heap.size w W → Cells W O (strs outer) from fun W hb => hO.below hb)
 have HAC := Lib.hid (show ∀ W, Below w.heap.size w W → Cells W A (ints above) from fun W hb => hA.below hb)
 have HBC := Lib.hid (show ∀ W, Below w.heap.size w W → Cells W B (ints below) from fun W hb => hB.below hb)
 have HSA := Lib.hid hsa
 have HSB := Lib.hid hsb
 have HR0 := Lib.hid hR0
 have HS0 := Lib.hid hs0
 have h1 := ha.r
 have h2 := ha.e
 have h3 := hb.e
 have h4 := ha.n8
 have h5 := hsa.outer
 have h6 := hsb.outer
 obtain ⟨r0, hr0⟩ : ∃ r0, r0 = rootsL 0 a.roots := ⟨_, rfl⟩
 obtain ⟨lf, hlf⟩ : ∃ lf, lf = edgesL 0 a.edges ++ above := ⟨_, rfl⟩
 obtain ⟨rt, hrt⟩ : ∃ rt, rt = edgesL a.edges b.edges ++ below := ⟨_, rfl⟩
 obtain ⟨hl, hhl⟩ : ∃ hl, hl = a.sites.map (parentS 0 r0) := ⟨_, rfl⟩
 obtain ⟨nA, hnA⟩ : ∃ nA, nA = nodesS a 0 r0 lf := ⟨_, rfl⟩
 obtain ⟨nB, hnB⟩ : ∃ nB, nB = nodesS b a.nodes.length hl rt := ⟨_, rfl⟩
 obtain ⟨nN, hnN⟩ : ∃ nN, nN = nA ++ nB := ⟨_, rfl⟩
 obtain ⟨sB, hsB⟩ : ∃ sB, sB = b.sites.map (parentS a.nodes.length hl) := ⟨_, rfl⟩
 obtain ⟨wB, hwB⟩ : ∃ wB, wB = wiresS b rt := ⟨_, rfl⟩
 have HLFE := Lib.hid hlf
 have HRTE := Lib.hid hrt
 have HNAE := Lib.hid hnA
 have HNBE := Lib.hid hnB
 have HNNE := Lib.hid hnN
 have HSBE := Lib.hid hsB
 have HWBE := Lib.hid hwB
 have HR0E := Lib.hid hr0
 have HHLE := Lib.hid hhl
 have HUG := Lib.hid (show (⟨a.roots, nN, sB, a.edges + b.edges, outer, wB⟩ : Gr) = underG a b outer above below from by rw [hnN, hnA, hnB, hsB, hwB, hhl, hr0, hlf, hrt]; rfl)
 have hrl : a.roots = r0.length := by rw [hr0, roots_len]; omega
 have hll : a.edges + a.outer.length = (lf.length : Nat) := by rw [hlf, List.length_append, edges_len, hab]; omega
 have hlr : b.edges + b.outer.length = (rt.length : Nat) := by rw [hrt, List.length_append, edges_len, hbe]; omega
 have hho : b.roots = (hl.length : Nat) := by rw [hhl, List.length_map]; exact hsr
 have HNA := Lib.hid (good_nodes ha hrl)
 have HSTA := Lib.hid (good_sites ha hrl)
 have HLA := Lib.hid (good_lk ha hll)
 have HNB := Lib.hid (good_nodes hb hho)
 have HSTB := Lib.hid (good_sites hb hho)
 have HLB := Lib.hid (good_lk hb hlr)
 have he2 : (edgesL 0 a.edges).length ≤ 1000 := by rw [edges_len]; omega
 have he3 : (edgesL a.edges b.edges).length ≤ 1000 := by rw [edges_len]; omega
 have hl1 : lf.length ≤ 1000000 := by rw [hlf, List.length_append]; omega
 have hl2 : rt.length ≤ 1000000 := by rw [hrt, List.length_append]; omega
 have hnn1 : nA.length ≤ 1000 := by rw [hnA, nodes_len]; exact hsa.nodes
 have hnn2 : nB.length ≤ 1000 := by rw [hnB, nodes_len]; exact hsb.nodes
 clear hlf hrt hnA hnB hnN hsB hwB hr0 hhl
 have hab1 : above.length ≤ 1000 := by omega
 have hbe1 : below.length ≤ 1000 := by omega
 obtain ⟨xa0, xa1, xa2, xa3, xa4, xa5⟩ := row6 bxa0
 clear hb0 hw0 bxa0 bxb0 hR0 hGa hGb hsa hsb ha hb hO hA hB hsr hab hbe hrl hll hlr hho h5 h6
 go_enter Tryz.func224, Tryz.ntmps224
 go_wp2_with (rw [← HW0.out])
 have HC := Lib.hid (roots_int 0 a.roots w0 (by decide) h1.1 (by omega))
 (with_reducible refine HC.out.mono ?_)
 rintro e w1 ⟨A1, c1, rfl, ho1, hb1⟩
 rw [← HR0E.out] at ho1 ⊢
 have HZ1 := Lib.hid hb1
 have hz1 := hb1.size
 have HC1 := Lib.hid (show ∀ W, Below w1.heap.size w1 W → Cells W A1 (ints r0) from fun W hb => (Cells.of_owns ho1).below hb)
 clear HC ho1 hb1 xa0 xa1 xa2 xa3 xa4 xa5
 go_wp2_with fail
 refine wp_region_y (by kernel_rfl) [some 18, some 19, some 20, some 21, some 22, some 23, some 24, some 25, some 26, some 27, some 28, some 29, some 12, some 13] [] (fun q => match q with | 4 => [2] | 11 => [9] | 12 => [4] | 13 => [11] | _ => []) (fun q v F W => match q with | 0 => v = .pointer (some ⟨w.heap.size, 3, none⟩) | 1 => v = .int .i64 a.edges | 2 => ∃ A c, v = .slice A (edgesL 0 a.edges).length c ∧ OwnF W w0.heap.size F 3 1 (.slice A (edgesL 0 a.edges).length c) (edgesL 0 a.edges).length (ints (edgesL 0 a.edges)) | 3 => v = .slice A above.length ca | 4 => ∃ A c, v = .slice A lf.length c ∧ OwnF W w0.heap.size F 3 1 (.slice A lf.length c) lf.length (ints lf) | 5 => v = .pointer (some ⟨w.heap.size, 3, none⟩) | 6 => v = .int .i64 a.edges | 7 => v = .pointer (some ⟨w.heap.size + 1, 3, none⟩) | 8 => v = .int .i64 b.edges | 9 => ∃ A c, v = .slice A (edgesL a.edges b.edges).length c ∧ OwnF W w0.heap.size F 3 1 (.slice A (edgesL a.edges b.edges).length c) (edgesL a.edges b.edges).length (ints (edgesL a.edges b.edges)) | 10 => v = .slice B below.length cb | 11 => ∃ A c, v = .slice A rt.length c ∧ OwnF W w0.heap.size F 3 1 (.slice A rt.length c) rt.length (ints rt) | 12 => ∃ A c, v = .slice A lf.length c ∧ OwnF W w0.heap.size F 3 1 (.slice A lf.length c) lf.length (ints lf) | 13 => ∃ A c, v = .slice A rt.length c ∧ OwnF W w0.heap.size F 3 1 (.slice A rt.length c) rt.length (ints rt) | _ => True) (fun _ W => Below w1.heap.size w1 W) (by kernel_rfl) (by kernel_rfl) (by kernel_rfl) ?k1e ?k1d (Below.refl _ _).drew ?s1t ?f1i
 case k1d =>
  intro L q W W' hq he hc hs hk hd
  exact below_more hd hk
 case k1e =>
  intro T F q v W W' hk hT h
  match q, h with
  | 0, h | 1, h | 3, h | 5, h | 6, h | 7, h | 8, h | 10, h => exact h
  | 2, h | 4, h | 9, h | 11, h | 12, h | 13, h => obtain ⟨x0, x1, e, hr⟩ := h; exact ⟨x0, x1, e, hr.kept hk hT⟩
  | q + 14, _ => trivial
 case s1t =>
  as_aux_lemma =>
  intro F L act W q o h ho K3 hS hK
  match q, ho with
  | 0, ho | 5, ho =>
   cases ho
   have a5 : act.tmps[5]? = some _ := h.out 5 (by decide)
   clear h hK
   go_simp
   exact hS rfl _ _ (Kept.refl _ _) rfl
  | 1, ho =>
   cases ho
   have v0 := h.val 0 rfl (by kernel_rfl) rfl fun _ h => h
   have hD := h.d
   obtain ⟨xa0, xa1, xa2, xa3, xa4, xa5⟩ := row6 (HXA.out W (HZ1.out.trans (hD.mono HZ1.out.size)))
   have HD := Lib.hid hD
   clear hD h hK
   go_simp
   exact hS rfl _ _ (Kept.refl _ _) rfl
  | 2, ho =>
   cases ho
   have v1 := h.val 1 rfl (by kernel_rfl) rfl fun _ h => h
   have hsz := h.size
   clear h hK
   go_simp
   go_at_call 211
   refine (edges_int 0 a.edges W (by omega) (by omega) (by omega)).mono ?_
   rintro e W' ⟨A, c, rfl, ho, hbq⟩
   go_simp
   exact hS rfl _ _ (Kept.of_below hbq _) (⟨_, _, rfl, .new ho (by omega)⟩)
  | 3, ho =>
   cases ho
   have a3 : act.tmps[3]? = some _ := h.out 3 (by decide)
   clear h hK
   go_simp
   exact hS rfl _ _ (Kept.refl _ _) rfl
  | 4, ho =>
   cases ho
   obtain ⟨_, v2, A2, c2, rfl, hr2⟩ := h.has 2 rfl (by kernel_rfl) rfl
   have v3 := h.val 3 rfl (by kernel_rfl) rfl fun _ h => h
   have hsz := h.size
   have hD := h.d
   have hsc := HAC.out W (HB0.out.trans ((HZ1.out.trans (hD.mono HZ1.out.size)).mono HB0.out.size))
   have HD := Lib.hid hD
   clear hD h hK
   refine step_appC el_intG rfl (.tmp 20) (.tmp 21) rfl w0.heap.size (.slice A2 (edgesL 0 a.edges).length c2) ((edgesL 0 a.edges).length) (ints (edgesL 0 a.edges)) (by simp [Act.eval, *]) (hr2.1) (A) (above.length) (ca) (ints above) (by simp [Act.eval, *]) (ints_size _) (hsc) (ints_cell1 _) (by omega) (by omega) ?_
   intro v' W' ho hk hm
   rw [← List.length_append, ← ints_cat, ← HLFE.out] at ho
   obtain ⟨Ax, cx, rfl, ho⟩ := owns_form ho
   exact hS rfl _ _ (hr2.src hk (by decide)) (⟨_, _, rfl, hr2.app ho hm (by decide)⟩)
  | 6, ho =>
   cases ho
   have v5 := h.val 5 rfl (by kernel_rfl) rfl fun _ h => h
   have hD := h.d
   obtain ⟨xa0, xa1, xa2, xa3, xa4, xa5⟩ := row6 (HXA.out W (HZ1.out.trans (hD.mono HZ1.out.size)))
   have HD := Lib.hid hD
   clear hD h hK
   go_simp
   exact hS rfl _ _ (Kept.refl _ _) rfl
  | 7, ho =>
   cases ho
   have a6 : act.tmps[6]? = some _ := h.out 6 (by decide)
   clear h hK
   go_simp
   exact hS rfl _ _ (Kept.refl _ _) rfl
  | 8, ho =>
   cases ho
   have v7 := h.val 7 rfl (by kernel_rfl) rfl fun _ h => h
   have hD := h.d
   obtain ⟨xb0, xb1, xb2, xb3, xb4, xb5⟩ := row6 (HXB.out W (HZ1.out.trans (hD.mono HZ1.out.size)))
   have HD := Lib.hid hD
   clear hD h hK
   go_simp
   exact hS rfl _ _ (Kept.refl _ _) rfl
  | 9, ho =>
   cases ho
   have v6 := h.val 6 rfl (by kernel_rfl) rfl fun _ h => h
   have v8 := h.val 8 rfl (by kernel_rfl) rfl fun _ h => h
   have hsz := h.size
   clear h hK
   go_simp
   go_at_call 211
   refine (edges_int a.edges b.edges W (by omega) (by omega) (by omega)).mono ?_
   rintro e W' ⟨A, c, rfl, ho, hbq⟩
   go_simp
   exact hS rfl _ _ (Kept.of_below hbq _) (⟨_, _, rfl, .new ho (by omega)⟩)
  | 10, ho =>
   cases ho
   have a4 : act.tmps[4]? = some _ := h.out 4 (by decide)
   clear h hK
   go_simp
   exact hS rfl _ _ (Kept.refl _ _) rfl
  | 11, ho =>
   cases ho
   obtain ⟨_, v9, A9, c9, rfl, hr9⟩ := h.has 9 rfl (by kernel_rfl) rfl
   have v10 := h.val 10 rfl (by kernel_rfl) rfl fun _ h => h
   have hsz := h.size
   have hD := h.d
   have hsc := HBC.out W (HB0.out.trans ((HZ1.out.trans (hD.mono HZ1.out.size)).mono HB0.out.size))
   have HD := Lib.hid hD
   clear hD h hK
   refine step_appC el_intG rfl (.tmp 27) (.tmp 28) rfl w0.heap.size (.slice A9 (edgesL a.edges b.edges).length c9) ((edgesL a.edges b.edges).length) (ints (edgesL a.edges b.edges)) (by simp [Act.eval, *]) (hr9.1) (B) (below.length) (cb) (ints below) (by simp [Act.eval, *]) (ints_size _) (hsc) (ints_cell1 _) (by omega) (by omega) ?_
   intro v' W' ho hk hm
   rw [← List.length_append, ← ints_cat, ← HRTE.out] at ho
   obtain ⟨Ax, cx, rfl, ho⟩ := owns_form ho
   exact hS rfl _ _ (hr9.src hk (by decide)) (⟨_, _, rfl, hr9.app ho hm (by decide)⟩)
  | 12, ho =>
   cases ho
   obtain ⟨_, v4, A4, c4, rfl, hr4⟩ := h.has 4 rfl (by kernel_rfl) rfl
   clear h hK
   go_simp
   exact hS rfl _ _ (Kept.refl _ _) ⟨_, _, rfl, hr4.same (by decide)⟩
  | 13, ho =>
   cases ho
   obtain ⟨_, v11, A11, c11, rfl, hr11⟩ := h.has 11 rfl (by kernel_rfl) rfl
   clear h hK
   go_simp
   exact hS rfl _ _ (Kept.refl _ _) ⟨_, _, rfl, hr11.same (by decide)⟩
  | q + 14, ho => simp at ho
 intro V F W hsW HD0 hV hfl hdj
 have v0 : V 0 = _ := hV 0 rfl (by kernel_rfl)
 have v1 : V 1 = _ := hV 1 rfl (by kernel_rfl)
 have v3 : V 3 = _ := hV 3 rfl (by kernel_rfl)
 have v5 : V 5 = _ := hV 5 rfl (by kernel_rfl)
 have v6 : V 6 = _ := hV 6 rfl (by kernel_rfl)
 have v7 : V 7 = _ := hV 7 rfl (by kernel_rfl)
 have v8 : V 8 = _ := hV 8 rfl (by kernel_rfl)
 have v10 : V 10 = _ := hV 10 rfl (by kernel_rfl)
 obtain ⟨A12, c12, v12, hr12⟩ := hV 12 rfl (by kernel_rfl)
 obtain ⟨A13, c13, v13, hr13⟩ := hV 13 rfl (by kernel_rfl)
 clear hV
 simp only [layV, List.setIfInBounds_toArray, List.set_cons_zero, List.set_cons_succ, v0, v1, v3, v5, v6, v7, v8, v10, v12, v13]
 clear v0 v1 v3 v5 v6 v7 v8 v10 v12 v13
 generalize V 2 = u2
 generalize V 4 = u4
 generalize V 9 = u9
 generalize V 11 = u11
 have HZ2 := Lib.hid (HZ1.out.trans (HD0.mono HZ1.out.size))
 have HD12 := Lib.hid HD0
 have HC2 := Lib.hid (show ∀ W2, Below W.heap.size W W2 → Cells W2 A12 (ints lf) from fun W2 hb => hr12.cells.below hb)
 have HC3 := Lib.hid (show ∀ W2, Below W.heap.size W W2 → Cells W2 A13 (ints rt) from fun W2 hb => hr13.cells.below hb)
 obtain ⟨w2, hw2⟩ : ∃ w2, w2 = W := ⟨_, rfl⟩
 subst hw2
 have hz2 := HZ2.out.size
 clear hr12 hr13 hfl hdj HD0 F
 obtain ⟨xa0, xa1, xa2, xa3, xa4, xa5⟩ := row6 (HXA.out w2 HZ2.out)
 go_wp2_with fail
 have HC := Lib.hid (l4Sites_n a _ _ _ _ 0 _ c1 _ w2 HSA.out (by decide) HSTA.out (HC1.out w2 HD12.out) (HGA.out w2 (HB0.out.trans (HZ2.out.mono HB0.out.size))))
 (with_reducible refine HC.out.mono ?_)
 rintro e w3 ⟨A3, c3, rfl, ho3, hb3⟩
 rw [← HHLE.out] at ho3 ⊢
 have HZ3 := Lib.hid (HZ2.out.trans (hb3.mono HZ2.out.size))
 have HD23 := Lib.hid hb3
 have hz3 := HZ3.out.size
 have HC4 := Lib.hid (show ∀ W, Below w3.heap.size w3 W → Cells W A3 (ints hl) from fun W hb => (Cells.of_owns ho3).below hb)
 clear HC ho3 hb3 xa0 xa1 xa2 xa3 xa4 xa5
 go_wp2_with fail
 refine wp_region_y (by kernel_rfl) [some 33, some 34, some 35, some 36, some 37, some 38, some 39, some 40, some 41, some 42, some 43, some 44, some 45, some 46, some 47, some 48, some 49, some 50, some 51, some 52, some 53, some 54, some 55, some 56, some 57, some 58, some 59, some 60, some 61, some 62, some 63, some 64, none] [32] (fun q => match q with | 13 => [5, 12] | 27 => [25] | 31 => [13, 19, 27, 30] | _ => []) (fun q v F W => match q with | 0 => v = .pointer (some ⟨w.heap.size, 0, none⟩) | 1 => v = .int .i64 a.roots | 2 => v = .agg #[.int .i64 a.roots, .slice ANa a.nodes.length cNa, .slice ASa a.sites.length cSa, .int .i64 a.edges, .slice AOa a.outer.length cOa, .slice AIa a.inner.length cIa] | 3 => v = .slice A1 r0.length c1 | 4 => v = .slice A12 lf.length c12 | 5 => ∃ A c ls, v = .slice A nA.length c ∧ NTF W w0.heap.size F (.slice A nA.length c) nA ls | 6 => v = .agg #[.int .i64 b.roots, .slice ANb b.nodes.length cNb, .slice ASb b.sites.length cSb, .int .i64 b.edges, .slice AOb b.outer.length cOb, .slice AIb b.inner.length cIb] | 7 => v = .pointer (some ⟨w.heap.size, 1, none⟩) | 8 => v = .slice ANa a.nodes.length cNa | 9 => v = .int .i64 (a.nodes.length : Int) | 10 => v = .slice A3 hl.length c3 | 11 => v = .slice A13 rt.length c13 | 12 => ∃ A c ls, v = .slice A nB.length c ∧ NTF W w0.heap.size F (.slice A nB.length c) nB ls | 13 => ∃ A c ls, v = .slice A nN.length c ∧ NTF W w0.heap.size F (.slice A nN.length c) nN ls | 14 => v = .agg #[.int .i64 b.roots, .slice ANb b.nodes.length cNb, .slice ASb b.sites.length cSb, .int .i64 b.edges, .slice AOb b.outer.length cOb, .slice AIb b.inner.length cIb] | 15 => v = .pointer (some ⟨w.heap.size, 1, none⟩) | 16 => v = .slice ANa a.nodes.length cNa | 17 => v = .int .i64 (a.nodes.length : Int) | 18 => v = .slice A3 hl.length c3 | 19 => ∃ A c, v = .slice A sB.length c ∧ OwnF W w0.heap.size F 3 1 (.slice A sB.length c) sB.length (ints sB) | 20 => v = .pointer (some ⟨w.heap.size, 3, none⟩) | 21 => v = .int .i64 a.edges | 22 => v = .pointer (some ⟨w.heap.size + 1, 3, none⟩) | 23 => v = .int .i64 b.edges | 24 => v = .int .i64 (a.edges + b.edges) | 25 => ∃ gz, v = .slice (some ⟨gz, 0, none⟩) 0 0 ∧ OwnF W w0.heap.size F 9 1 (.slice (some ⟨gz, 0, none⟩) 0 0) 0 [] | 26 => v = .slice O outer.length co | 27 => ∃ A c, v = .slice A outer.length c ∧ OwnF W w0.heap.size F 9 1 (.slice A outer.length c) outer.length (strs outer) | 28 => v = .agg #[.int .i64 b.roots, .slice ANb b.nodes.length cNb, .slice ASb b.sites.length cSb, .int .i64 b.edges, .slice AOb b.outer.length cOb, .slice AIb b.inner.length cIb] | 29 => v = .slice A13 rt.length c13 | 30 => ∃ A c, v = .slice A wB.length c ∧ OwnF W w0.heap.size F 90 2 (.slice A wB.length c) wB.length (wB.flatMap encWi) | 31 => ∃ (X : BX), v = .agg X.cells ∧ X.g = underG a b outer above below ∧ OBF W w0.heap.size F X | _ => True) (fun l W => match l with | [false] => Below w3.heap.size w3 W | _ => ∃ X : BX, W.heap[w.heap.size + 1 + 1]? = some (.cells X.cells 31) ∧ X.g = underG a b outer above below ∧ RG w W X) (by kernel_rfl) (by kernel_rfl) (by kernel_rfl) ?k2e ?k2d (Below.refl _ _).drew ?s2t ?f2i
 case k2d =>
  exact keepD_last (by kernel_rfl)
 case k2e =>
  intro T F q v W W' hk hT h
  match q, h with
  | 0, h | 1, h | 2, h | 3, h | 4, h | 6, h | 7, h | 8, h | 9, h | 10, h | 11, h | 14, h | 15, h | 16, h | 17, h | 18, h | 20, h | 21, h | 22, h | 23, h | 24, h | 26, h | 28, h | 29, h | 32, h => exact h
  | 5, h | 12, h | 13, h => obtain ⟨x0, x1, x2, e, hr⟩ := h; exact ⟨x0, x1, x2, e, hr.kept hk hT⟩
  | 19, h | 27, h | 30, h => obtain ⟨x0, x1, e, hr⟩ := h; exact ⟨x0, x1, e, hr.kept hk hT⟩
  | 25, h => obtain ⟨x0, e, hr⟩ := h; exact ⟨x0, e, hr.kept hk hT⟩
  | 31, h => obtain ⟨x0, e, hr⟩ := h; exact ⟨x0, e, ⟨hr.1, hr.2.kept hk hT⟩⟩
  | q + 33, _ => trivial
 case s2t =>
  as_aux_lemma =>
  intro F L act W q o h ho K3 hS hK
  match q, ho with
  | 0, ho | 7, ho | 15, ho | 20, ho =>
   cases ho
   have a5 : act.tmps[5]? = some _ := h.out 5 (by decide)
   clear h hK
   go_simp
   exact hS rfl _ _ (Kept.refl _ _) rfl
  | 1, ho =>
   cases ho
   have v0 := h.val 0 rfl (by kernel_rfl) rfl fun _ h => h
   have hD := h.d
   have hn := h.off 32 (by kernel_rfl)
   simp only [List.map_cons, List.map_nil, hn] at hD
   obtain ⟨xa0, xa1, xa2, xa3, xa4, xa5⟩ := row6 (HXA.out W (HZ3.out.trans (hD.mono HZ3.out.size)))
   have HD := Lib.hid hD
   clear hD h hK
   go_simp
   exact hS rfl _ _ (Kept.refl _ _) rfl
  | 2, ho =>
   cases ho
   have a5 : act.tmps[5]? = some _ := h.out 5 (by decide)
   have hD := h.d
   have hn := h.off 32 (by kernel_rfl)
   simp only [List.map_cons, List.map_nil, hn] at hD
   obtain ⟨xa0, xa1, xa2, xa3, xa4, xa5⟩ := row6 (HXA.out W (HZ3.out.trans (hD.mono HZ3.out.size)))
   have HD := Lib.hid hD
   clear hD h hK
   go_simp
   exact hS rfl _ _ (Kept.refl _ _) rfl
  | 3, ho =>
   cases ho
   have a11 : act.tmps[11]? = some _ := h.out 11 (by decide)
   clear h hK
   go_simp
   exact hS rfl _ _ (Kept.refl _ _) rfl
  | 4, ho =>
   cases ho
   have a12 : act.tmps[12]? = some _ := h.out 12 (by decide)
   clear h hK
   go_simp
   exact hS rfl _ _ (Kept.refl _ _) rfl
  | 5, ho =>
   cases ho
   have v2 := h.val 2 rfl (by kernel_rfl) rfl fun _ h => h
   have v3 := h.val 3 rfl (by kernel_rfl) rfl fun _ h => h
   have v4 := h.val 4 rfl (by kernel_rfl) rfl fun _ h => h
   have hsz := h.size
   have hD := h.d
   have hn := h.off 32 (by kernel_rfl)
   simp only [List.map_cons, List.map_nil, hn] at hD
   have HD := Lib.hid hD
   clear hD h hK
   go_simp
   go_at_call 248
   refine (l4Nodes_any a _ _ _ _ 0 _ _ c1 _ r0 lf W HSA.out (by decide) HNA.out HLA.out.1 hl1 (HC1.out W (HD12.out.trans ((HD23.out.trans (HD.out.mono HD23.out.size)).mono HD12.out.size))) (HC2.out W (HD23.out.trans (HD.out.mono HD23.out.size))) (HGA.out W (HB0.out.trans ((HZ3.out.trans (HD.out.mono HZ3.out.size)).mono HB0.out.size)))).mono ?_
   rintro e W' ⟨u, ls, rfl, hnt, hbq⟩
   rw [← HNAE.out] at hnt
   obtain ⟨An, cn, rfl⟩ := hnt.shape
   go_simp
   exact hS rfl _ _ (Kept.of_below hbq _) (⟨_, _, _, rfl, .new hnt (by omega)⟩)
  | 6, ho | 14, ho | 28, ho =>
   cases ho
   have a6 : act.tmps[6]? = some _ := h.out 6 (by decide)
   have hD := h.d
   have hn := h.off 32 (by kernel_rfl)
   simp only [List.map_cons, List.map_nil, hn] at hD
   obtain ⟨xb0, xb1, xb2, xb3, xb4, xb5⟩ := row6 (HXB.out W (HZ3.out.trans (hD.mono HZ3.out.size)))
   have HD := Lib.hid hD
   clear hD h hK
   go_simp
   exact hS rfl _ _ (Kept.refl _ _) rfl
  | 8, ho =>
   cases ho
   have v7 := h.val 7 rfl (by kernel_rfl) rfl fun _ h => h
   have hD := h.d
   have hn := h.off 32 (by kernel_rfl)
   simp only [List.map_cons, List.map_nil, hn] at hD
   obtain ⟨xa0, xa1, xa2, xa3, xa4, xa5⟩ := row6 (HXA.out W (HZ3.out.trans (hD.mono HZ3.out.size)))
   have HD := Lib.hid hD
   clear hD h hK
   go_simp
   exact hS rfl _ _ (Kept.refl _ _) rfl
  | 9, ho =>
   cases ho
   have v8 := h.val 8 rfl (by kernel_rfl) rfl fun _ h => h
   clear h hK
   go_simp
   exact hS rfl _ _ (Kept.refl _ _) rfl
  | 10, ho | 18, ho =>
   cases ho
   have a14 : act.tmps[14]? = some _ := h.out 14 (by decide)
   clear h hK
   go_simp
   exact hS rfl _ _ (Kept.refl _ _) rfl
  | 11, ho | 29, ho =>
   cases ho
   have a13 : act.tmps[13]? = some _ := h.out 13 (by decide)
   clear h hK
   go_simp
   exact hS rfl _ _ (Kept.refl _ _) rfl
  | 12, ho =>
   cases ho
   have v6 := h.val 6 rfl (by kernel_rfl) rfl fun _ h => h
   have v9 := h.val 9 rfl (by kernel_rfl) rfl fun _ h => h
   have v10 := h.val 10 rfl (by kernel_rfl) rfl fun _ h => h
   have v11 := h.val 11 rfl (by kernel_rfl) rfl fun _ h => h
   have hsz := h.size
   have hD := h.d
   have hn := h.off 32 (by kernel_rfl)
   simp only [List.map_cons, List.map_nil, hn] at hD
   have HD := Lib.hid hD
   clear hD h hK
   go_simp
   go_at_call 248
   refine (l4Nodes_any b _ _ _ _ a.nodes.length _ _ c3 _ hl rt W HSB.out (by omega) HNB.out HLB.out.1 hl2 (HC4.out W HD.out) (HC3.out W (HD23.out.trans (HD.out.mono HD23.out.size))) (HGB.out W (HB0.out.trans ((HZ3.out.trans (HD.out.mono HZ3.out.size)).mono HB0.out.size)))).mono ?_
   rintro e W' ⟨u, ls, rfl, hnt, hbq⟩
   rw [← HNBE.out] at hnt
   obtain ⟨An, cn, rfl⟩ := hnt.shape
   go_simp
   exact hS rfl _ _ (Kept.of_below hbq _) (⟨_, _, _, rfl, .new hnt (by omega)⟩)
  | 13, ho =>
   cases ho
   obtain ⟨_, v5, A5, c5, ls5, rfl, hr5⟩ := h.has 5 rfl (by kernel_rfl) rfl
   obtain ⟨_, v12, A12, c12, ls12, rfl, hr12⟩ := h.has 12 rfl (by kernel_rfl) rfl
   have hsz := h.size
   have hdj := fun b => h.dj 5 12 b rfl rfl (by kernel_rfl) (by kernel_rfl) rfl
   have hc2 := Cells.of_owns hr12.nt.own
   clear h hK
   refine step_appC el_nodG rfl (.tmp 38) (.tmp 45) rfl w0.heap.size (.slice A5 nA.length c5) (nA.length) (ncells nA ls5) (by simp [Act.eval, *]) (hr5.nt.own) (A12) (nB.length) (c12) (ncells nB ls12) (by simp [Act.eval, *]) (ncells_len hr12.nt.len) (hc2) (ncells_cell1 hr12.nt) (by omega) (by omega) ?_
   intro v' W' ho hk hm
   have ho2 := hr5.cat hr12 hdj ho hk hm (q := 13) (src := (fun q => match q with | 13 => [5, 12] | 27 => [25] | 31 => [13, 19, 27, 30] | _ => [])) (by decide) (by decide)
   rw [← HNNE.out] at ho2
   obtain ⟨Ax, cx, rfl⟩ := ho2.form
   exact hS rfl _ _ (hr5.from_ hk (by decide)) (⟨_, _, _, rfl, ho2⟩)
  | 16, ho =>
   cases ho
   have v15 := h.val 15 rfl (by kernel_rfl) rfl fun _ h => h
   have hD := h.d
   have hn := h.off 32 (by kernel_rfl)
   simp only [List.map_cons, List.map_nil, hn] at hD
   obtain ⟨xa0, xa1, xa2, xa3, xa4, xa5⟩ := row6 (HXA.out W (HZ3.out.trans (hD.mono HZ3.out.size)))
   have HD := Lib.hid hD
   clear hD h hK
   go_simp
   exact hS rfl _ _ (Kept.refl _ _) rfl
  | 17, ho =>
   cases ho
   have v16 := h.val 16 rfl (by kernel_rfl) rfl fun _ h => h
   clear h hK
   go_simp
   exact hS rfl _ _ (Kept.refl _ _) rfl
  | 19, ho =>
   cases ho
   have v14 := h.val 14 rfl (by kernel_rfl) rfl fun _ h => h
   have v17 := h.val 17 rfl (by kernel_rfl) rfl fun _ h => h
   have v18 := h.val 18 rfl (by kernel_rfl) rfl fun _ h => h
   have hsz := h.size
   have hD := h.d
   have hn := h.off 32 (by kernel_rfl)
   simp only [List.map_cons, List.map_nil, hn] at hD
   have HD := Lib.hid hD
   clear hD h hK
   go_simp
   go_at_call 165
   refine (l4Sites_n b _ _ _ _ a.nodes.length _ c3 hl W HSB.out (by omega) HSTB.out (HC4.out W HD.out) (HGB.out W (HB0.out.trans ((HZ3.out.trans (HD.out.mono HZ3.out.size)).mono HB0.out.size)))).mono ?_
   rintro e W' ⟨A, c, rfl, ho, hbq⟩
   rw [← HSBE.out] at ho ⊢
   go_simp
   exact hS rfl _ _ (Kept.of_below hbq _) (⟨_, _, rfl, .new ho (by omega)⟩)
  | 21, ho =>
   cases ho
   have v20 := h.val 20 rfl (by kernel_rfl) rfl fun _ h => h
   have hD := h.d
   have hn := h.off 32 (by kernel_rfl)
   simp only [List.map_cons, List.map_nil, hn] at hD
   obtain ⟨xa0, xa1, xa2, xa3, xa4, xa5⟩ := row6 (HXA.out W (HZ3.out.trans (hD.mono HZ3.out.size)))
   have HD := Lib.hid hD
   clear hD h hK
   go_simp
   exact hS rfl _ _ (Kept.refl _ _) rfl
  | 22, ho =>
   cases ho
   have a6 : act.tmps[6]? = some _ := h.out 6 (by decide)
   clear h hK
   go_simp
   exact hS rfl _ _ (Kept.refl _ _) rfl
  | 23, ho =>
   cases ho
   have v22 := h.val 22 rfl (by kernel_rfl) rfl fun _ h => h
   have hD := h.d
   have hn := h.off 32 (by kernel_rfl)
   simp only [List.map_cons, List.map_nil, hn] at hD
   obtain ⟨xb0, xb1, xb2, xb3, xb4, xb5⟩ := row6 (HXB.out W (HZ3.out.trans (hD.mono HZ3.out.size)))
   have HD := Lib.hid hD
   clear hD h hK
   go_simp
   exact hS rfl _ _ (Kept.refl _ _) rfl
  | 24, ho =>
   cases ho
   have v21 := h.val 21 rfl (by kernel_rfl) rfl fun _ h => h
   have v23 := h.val 23 rfl (by kernel_rfl) rfl fun _ h => h
   clear h hK
   go_simp
   exact hS rfl _ _ (Kept.refl _ _) (show Value.int .i64 (IntKind.i64.wrap (a.edges + b.edges)) = .int .i64 (a.edges + b.edges) from by rw [IntWalk.i64_in _ (by omega)])
  | 25, ho =>
   cases ho
   have hsz := h.size
   clear h hK
   go_simp
   exact hS rfl _ _ (kept_alloc _ _ _) ⟨_, rfl, .new (made_rowG W 9) (by omega)⟩
  | 26, ho =>
   cases ho
   have a2 : act.tmps[2]? = some _ := h.out 2 (by decide)
   clear h hK
   go_simp
   exact hS rfl _ _ (Kept.refl _ _) rfl
  | 27, ho =>
   cases ho
   obtain ⟨_, v25, gz25, rfl, hr25⟩ := h.has 25 rfl (by kernel_rfl) rfl
   have v26 := h.val 26 rfl (by kernel_rfl) rfl fun _ h => h
   have hsz := h.size
   have hD := h.d
   have hn := h.off 32 (by kernel_rfl)
   simp only [List.map_cons, List.map_nil, hn] at hD
   have hsc := HOC.out W (HB0.out.trans ((HZ3.out.trans (hD.mono HZ3.out.size)).mono HB0.out.size))
   have HD := Lib.hid hD
   clear hD h hK
   refine step_appC el_strG rfl (.tmp 58) (.tmp 59) rfl w0.heap.size (.slice (some ⟨gz25, 0, none⟩) 0 0) (0) ([]) (by simp [Act.eval, *]) (hr25.1) (O) (outer.length) (co) (strs outer) (by simp [Act.eval, *]) (strs_size _) (hsc) (strs_cell1 _) (by omega) (by omega) ?_
   intro v' W' ho hk hm
   rw [Nat.zero_add, List.nil_append] at ho
   obtain ⟨Ax, cx, rfl, ho⟩ := owns_form ho
   exact hS rfl _ _ (hr25.src hk (by decide)) (⟨_, _, rfl, hr25.app ho hm (by decide)⟩)
  | 30, ho =>
   cases ho
   have v28 := h.val 28 rfl (by kernel_rfl) rfl fun _ h => h
   have v29 := h.val 29 rfl (by kernel_rfl) rfl fun _ h => h
   have hsz := h.size
   have hD := h.d
   have hn := h.off 32 (by kernel_rfl)
   simp only [List.map_cons, List.map_nil, hn] at hD
   have HD := Lib.hid hD
   clear hD h hK
   go_simp
   go_at_call 249
   refine (l4Wires_any b _ _ _ _ _ c13 rt W HSB.out HLB.out.2 (HC3.out W (HD23.out.trans (HD.out.mono HD23.out.size))) hl2 (HGB.out W (HB0.out.trans ((HZ3.out.trans (HD.out.mono HZ3.out.size)).mono HB0.out.size)))).mono ?_
   rintro e W' ⟨u, rfl, ho, hbq⟩
   rw [← wires_len b rt, ← HWBE.out] at ho
   obtain ⟨Ax, cx, rfl, ho⟩ := owns_form ho
   go_simp
   exact hS rfl _ _ (Kept.of_below hbq _) (⟨_, _, rfl, .new ho (by omega)⟩)
  | 31, ho =>
   cases ho
   have v1 := h.val 1 rfl (by kernel_rfl) rfl fun _ h => h
   obtain ⟨_, v13, A13, c13, ls13, rfl, hr13⟩ := h.has 13 rfl (by kernel_rfl) rfl
   obtain ⟨_, v19, A19, c19, rfl, hr19⟩ := h.has 19 rfl (by kernel_rfl) rfl
   have v24 := h.val 24 rfl (by kernel_rfl) rfl fun _ h => h
   obtain ⟨_, v27, A27, c27, rfl, hr27⟩ := h.has 27 rfl (by kernel_rfl) rfl
   obtain ⟨_, v30, A30, c30, rfl, hr30⟩ := h.has 30 rfl (by kernel_rfl) rfl
   have hdj := fun b => h.dj 13 19 b rfl rfl (by kernel_rfl) (by kernel_rfl) rfl
   clear h hK
   refine step_build6 rfl rfl (eval_at v1) (eval_at v13) (eval_at v19) (eval_at v24) (eval_at v27) (eval_at v30) ?_
   exact hS rfl _ _ (Kept.refl _ _) ⟨⟨a.roots, a.edges + b.edges, _, _, _, _, nN, ls13, sB, outer, wB⟩, rfl, HUG.out, OBF.mk4 hr13 hr19 hr27 hr30 hdj (by decide) (by decide) (by decide) (by decide)⟩
  | 32, ho =>
   cases ho
   have a10 : act.tmps[10]? = some _ := h.out 10 (by decide)
   obtain ⟨_, v31, X31, rfl, hr31⟩ := h.has 31 rfl (by kernel_rfl) rfl
   have hD := h.d
   have hn := h.off 32 (by kernel_rfl)
   simp only [List.map_cons, List.map_nil, hn] at hD
   obtain ⟨hXg, hob⟩ := hr31
   obtain ⟨xr, xe, xnv, xsv, xov, xiv, xns, xls, xss, xos, xis⟩ := X31
   obtain ⟨YN, dN, YS, dS, YO, dO, YI, dI, e1, e2, e3, e4⟩ := hob.ob.form
   dsimp only at e1 e2 e3 e4
   subst e1 e2 e3 e4
   have HOB := Lib.hid hob
   have HXG := Lib.hid hXg
   have hsw := h.size
   have HNO := Lib.hid (show upd L 32 32 = true from upd_same _ _)
   obtain ⟨z0, z1, z2, z3, z4, z5, f0, f1, f2, f3, f4, f5⟩ := row6f (HRR.out W (HZ3.out.trans (hD.mono HZ3.out.size)))
   clear hob hXg hn
   simp only [BX.cells] at v31
   have HD := Lib.hid hD
   clear hD h hS
   go_simp
   have hf := fin6R (X := ⟨xr, xe, .slice YN xns.length dN, .slice YS xss.length dS, .slice YO xos.length dO, .slice YI xis.length dI, xns, xls, xss, xos, xis⟩) (w.heap.size + 1 + 1) HB0.out (by omega) HR0.out (Kept.of_below (HZ3.out.trans (HD.out.mono HZ3.out.size)) (fun q => w.heap.size + 1 + 1 + 1 ≤ q)) (by have h := HOB.out.ob; rw [HS0.out] at h; exact h)
   refine hK undef _ ?_ trivial ?_
   ·exact ((((((Kept.refl _ _).setCell (p := ⟨w.heap.size + 1 + 1, 0, none⟩) (.inl (show w.heap.size + 1 + 1 < w3.heap.size by omega)) _).setCell (p := ⟨w.heap.size + 1 + 1, 1, none⟩) (.inl (show w.heap.size + 1 + 1 < w3.heap.size by omega)) _).setCell (p := ⟨w.heap.size + 1 + 1, 2, none⟩) (.inl (show w.heap.size + 1 + 1 < w3.heap.size by omega)) _).setCell (p := ⟨w.heap.size + 1 + 1, 3, none⟩) (.inl (show w.heap.size + 1 + 1 < w3.heap.size by omega)) _).setCell (p := ⟨w.heap.size + 1 + 1, 4, none⟩) (.inl (show w.heap.size + 1 + 1 < w3.heap.size by omega)) _).setCell (p := ⟨w.heap.size + 1 + 1, 5, none⟩) (.inl (show w.heap.size + 1 + 1 < w3.heap.size by omega)) _
   simp only [List.map_cons, List.map_nil, HNO.out]
   exact ⟨_, hf.1, HXG.out, hf.2⟩
  | q + 33, ho => simp at ho
 intro V F W hsW HD0 hV hfl hdj
 have v0 : V 0 = _ := hV 0 rfl (by kernel_rfl)
 have v1 : V 1 = _ := hV 1 rfl (by kernel_rfl)
 have v2 : V 2 = _ := hV 2 rfl (by kernel_rfl)
 have v3 : V 3 = _ := hV 3 rfl (by kernel_rfl)
 have v4 : V 4 = _ := hV 4 rfl (by kernel_rfl)
 have v6 : V 6 = _ := hV 6 rfl (by kernel_rfl)
 have v7 : V 7 = _ := hV 7 rfl (by kernel_rfl)
 have v8 : V 8 = _ := hV 8 rfl (by kernel_rfl)
 have v9 : V 9 = _ := hV 9 rfl (by kernel_rfl)
 have v10 : V 10 = _ := hV 10 rfl (by kernel_rfl)
 have v11 : V 11 = _ := hV 11 rfl (by kernel_rfl)
 have v14 : V 14 = _ := hV 14 rfl (by kernel_rfl)
 have v15 : V 15 = _ := hV 15 rfl (by kernel_rfl)
 have v16 : V 16 = _ := hV 16 rfl (by kernel_rfl)
 have v17 : V 17 = _ := hV 17 rfl (by kernel_rfl)
 have v18 : V 18 = _ := hV 18 rfl (by kernel_rfl)
 have v20 : V 20 = _ := hV 20 rfl (by kernel_rfl)
 have v21 : V 21 = _ := hV 21 rfl (by kernel_rfl)
 have v22 : V 22 = _ := hV 22 rfl (by kernel_rfl)
 have v23 : V 23 = _ := hV 23 rfl (by kernel_rfl)
 have v24 : V 24 = _ := hV 24 rfl (by kernel_rfl)
 have v26 : V 26 = _ := hV 26 rfl (by kernel_rfl)
 have v28 : V 28 = _ := hV 28 rfl (by kernel_rfl)
 have v29 : V 29 = _ := hV 29 rfl (by kernel_rfl)
 obtain ⟨X31, v31, hr31⟩ := hV 31 rfl (by kernel_rfl)
 clear hV
 simp only [layV, List.setIfInBounds_toArray, List.set_cons_zero, List.set_cons_succ, v0, v1, v2, v3, v4, v6, v7, v8, v9, v10, v11, v14, v15, v16, v17, v18, v20, v21, v22, v23, v24, v26, v28, v29, v31]
 clear v0 v1 v2 v3 v4 v6 v7 v8 v9 v10 v11 v14 v15 v16 v17 v18 v20 v21 v22 v23 v24 v26 v28 v29 v31
 generalize V 5 = u5
 generalize V 12 = u12
 generalize V 13 = u13
 generalize V 19 = u19
 generalize V 25 = u25
 generalize V 27 = u27
 generalize V 30 = u30
 obtain ⟨X, hX, hXg, hrg⟩ := HD0
 clear hfl hdj
 have HXX := Lib.hid hX
 have HXG := Lib.hid hXg
 have HRG := Lib.hid hrg
 clear hX hXg hrg
 go_wp2_with fail
 (try simp only [Exit.inBlock, Exit.then])
 refine bodyPost_ret (results_cell_row rfl _ _ (w.heap.size + 1 + 1) _ _ _ _ rfl HXX.out Tryz.underlying31 rfl (by kernel_rfl)) rfl ?_
 exact ⟨_, rfl, HXG.out, HRG.out⟩

end Go.Proofs.YtijkdpdmclkmlaaGreatDoor
