/- The reference: a bigraph nested in another one: walked. -/
import Derived.Test.YtijkdpdmclkmlaaGreatDoorProg
import Derived.Test.YtijkdpdmclkmlaaGreatDoorJ39
import Derived.Test.YtijkdpdmclkmlaaGreatDoorJ15
import Derived.Test.YtijkdpdmclkmlaaGreatDoorJ40
import Derived.BigQuiet
import Derived.IntWalk
set_option linter.unusedSimpArgs false
set_option linter.unusedVariables false
set_option maxRecDepth 100000
set_option maxHeartbeats 16000000
namespace Go.Proofs.YtijkdpdmclkmlaaGreatDoor
open Go.RowKit
theorem OBF.of_rg {W W' : World} {N q : Nat} {src : Nat → List Nat} {F : Nat → Nat → Prop} {X : BX} (h : RG W W' X) (hN : N ≤ W.heap.size) : OBF W' N (newF src F q W W') X :=
  { ob := h.ob.mono hN, fn := fun b hb => .inr (h.ob.N.own.lt b hb), fs := fun b hb => .inr (h.ob.S.lt b hb), fo := fun b hb => .inr (h.ob.O.lt b hb), fi := fun b hb => .inr (h.ob.I.lt b hb)
    fk := fun i l b hl hb => by
      obtain ⟨x, _, hx⟩ := h.ob.N.lkown hl
      exact .inr (hx.lt b hb) }
theorem strs_cat (xs ys : List ByteArray) : strs (xs ++ ys) = strs xs ++ strs ys := by simp [strs]
theorem named_len (names outer : List ByteArray) (e : Int) : (namedS names e outer).length = names.length := by simp [namedS]
theorem l4Named_n (A B : Option Addr) (c d : Nat) (names outer : List ByteArray) (e0 : Int) (w : World) (he : -1000000 ≤ e0 ∧ e0 ≤ 1000000) (hn : names.length ≤ 1000) (ho : outer.length ≤ 1000) (hA : Cells w A (strs names)) (hB : Cells w B (strs outer)) :
  Calls Tryz.prog 225 #[.slice A names.length c, .int .i64 e0, .slice B outer.length d] w fun e w' => ∃ A c, e = .returned (.slice A (namedS names e0 outer).length c) ∧ w'.ownsRow w.heap.size 3 1 (.slice A (namedS names e0 outer).length c) (namedS names e0 outer).length (ints (namedS names e0 outer)) ∧ Below w.heap.size w w' := by
 refine (l4Named_any A B c d names outer e0 w he hn ho hA hB).mono ?_
 rintro e W' ⟨u, rfl, ho, hb⟩
 rw [← named_len names outer e0] at ho
 obtain ⟨A, c, rfl, ho⟩ := owns_form ho
 exact ⟨A, c, rfl, ho, hb⟩
theorem l4Nest_any (sig : List Ct) (a b : Gr) (nva sva ova iva nvb svb ovb ivb : Value) (w : World) (hsa : SmallG a) (hsb : SmallG b) (ha : GoodP sig a) (hb : GoodP sig b) (hsr : b.roots = a.sites.length) (hGa : RGr w nva sva ova iva a) (hGb : RGr w nvb svb ovb ivb b) :
  Calls Tryz.prog 170 #[.agg #[.int .i64 a.roots, nva, sva, .int .i64 a.edges, ova, iva], .agg #[.int .i64 b.roots, nvb, svb, .int .i64 b.edges, ovb, ivb]] w fun e w' => ∃ X : BX, e = .returned (.agg X.cells) ∧ X.g = nestG a b (sortS (a.outer ++ b.outer)) ∧ RG w w' X := by
 have HGA := Lib.hid (show ∀ W, Below w.heap.size w W → RGr W nva sva ova iva a from fun W hb => hGa.below hb)
 have HGB := Lib.hid (show ∀ W, Below w.heap.size w W → RGr W nvb svb ovb ivb b from fun W hb => hGb.below hb)
 obtain ⟨ANa, cNa, ASa, cSa, AOa, cOa, AIa, cIa, rfl, rfl, rfl, rfl⟩ := hGa.form
 obtain ⟨ANb, cNb, ASb, cSb, AOb, cOb, AIb, cIb, rfl, rfl, rfl, rfl⟩ := hGb.form
 obtain ⟨w0, hw0, hb0, hs0, bxa0, bxb0, hR0⟩ := laid3 w (.cells #[.int .i64 a.roots, .slice ANa a.nodes.length cNa, .slice ASa a.sites.length cSa, .int .i64 a.edges, .slice AOa a.outer.length cOa, .slice AIa a.inner.length cIa] 31) (.cells #[.int .i64 b.roots, .slice ANb b.nodes.length cNb, .slice ASb b.sites.length cSb, .int .i64 b.edges, .slice AOb b.outer.length cOb, .slice AIb b.inner.length cIb] 31) (.cells #[.int .i64 0, .slice none 0 0, .slice none 0 0, .int .i64 0, .slice none 0 0, .slice none 0 0] 31)
 have HRR := Lib.hid (keepB hR0)
 have HXA := Lib.hid (keepB bxa0)
 have HXB := Lib.hid (keepB bxb0)
 have HB0 := Lib.hid hb0
 have HW0 := Lib.hid hw0
 have HSA := Lib.hid hsa
 have HSB := Lib.hid hsb
 have HPA := Lib.hid ha
 have HPB := Lib.hid hb
 have HSR := Lib.hid hsr
 have HR0 := Lib.hid hR0
 have HS0 := Lib.hid hs0
 have h2 := ha.e
 have h3 := hb.e
 have h5 := names_len ha.on
 have h6 := names_len hb.on
 obtain ⟨E, hE⟩ : ∃ E, E = a.edges + b.edges := ⟨_, rfl⟩
 obtain ⟨ab, hab⟩ : ∃ ab, ab = a.outer ++ b.outer := ⟨_, rfl⟩
 obtain ⟨so, hso⟩ : ∃ so, so = sortS ab := ⟨_, rfl⟩
 obtain ⟨nA, hnA⟩ : ∃ nA, nA = namedS a.outer E so := ⟨_, rfl⟩
 obtain ⟨nB, hnB⟩ : ∃ nB, nB = namedS b.outer E so := ⟨_, rfl⟩
 have HEE := Lib.hid hE
 have HABE := Lib.hid hab
 have HSOE := Lib.hid hso
 have HNAE := Lib.hid hnA
 have HNBE := Lib.hid hnB
 have HUG := Lib.hid (show underG a b so nA nB = nestG a b (sortS (a.outer ++ b.outer)) from by rw [hnA, hnB, hso, hab, hE]; exact nest_under ha hb (names_np ha.on) (names_np hb.on))
 have habl : ab.length ≤ 32 := by rw [hab, List.length_append]; omega
 have hsol : so.length ≤ 32 := by rw [hso]; exact Nat.le_trans (sortS_len _) habl
 have HLA := Lib.hid (show nA.length = a.outer.length from by rw [hnA]; exact named_len _ _ _)
 have HLB := Lib.hid (show nB.length = b.outer.length from by rw [hnB]; exact named_len _ _ _)
 have hEb : -1000000 ≤ E ∧ E ≤ 1000000 := by omega
 clear hb0 hw0 bxa0 bxb0 hR0 hGa hGb hsa hsb ha hb hsr hE hab hso hnA hnB
 go_enter Tryz.func170, Tryz.ntmps170
 go_wp2_with (rw [← HW0.out])
 have HZZ := Lib.hid (Below.refl w0.heap.size w0)
 refine wp_region_y (by kernel_rfl) [some 7, some 8, some 9, some 10, some 11, some 12, some 13, some 14, some 15, some 16, some 17, some 18, some 19, some 5, some 6] [] (fun q => match q with | 3 => [0] | 6 => [3] | 13 => [7] | _ => []) (fun q v F W => match q with | 0 => ∃ gz, v = .slice (some ⟨gz, 0, none⟩) 0 0 ∧ OwnF W w0.heap.size F 9 1 (.slice (some ⟨gz, 0, none⟩) 0 0) 0 [] | 1 => v = .pointer (some ⟨w.heap.size, 4, none⟩) | 2 => v = .slice AOa a.outer.length cOa | 3 => ∃ A c, v = .slice A a.outer.length c ∧ OwnF W w0.heap.size F 9 1 (.slice A a.outer.length c) a.outer.length (strs a.outer) | 4 => v = .pointer (some ⟨w.heap.size + 1, 4, none⟩) | 5 => v = .slice AOb b.outer.length cOb | 6 => ∃ A c, v = .slice A ab.length c ∧ OwnF W w0.heap.size F 9 1 (.slice A ab.length c) ab.length (strs ab) | 7 => ∃ A c, v = .slice A so.length c ∧ OwnF W w0.heap.size F 9 1 (.slice A so.length c) so.length (strs so) | 8 => v = .pointer (some ⟨w.heap.size, 3, none⟩) | 9 => v = .int .i64 a.edges | 10 => v = .pointer (some ⟨w.heap.size + 1, 3, none⟩) | 11 => v = .int .i64 b.edges | 12 => v = .int .i64 E | 13 => ∃ A c, v = .slice A so.length c ∧ OwnF W w0.heap.size F 9 1 (.slice A so.length c) so.length (strs so) | 14 => v = .int .i64 E | _ => True) (fun _ W => Below w0.heap.size w0 W) (by kernel_rfl) (by kernel_rfl) (by kernel_rfl) ?k1e ?k1d (Below.refl _ _).drew ?s1t ?f1i
 case k1d =>
  intro L q W W' hq he hc hs hk hd
  exact below_more hd hk
 case k1e =>
  intro T F q v W W' hk hT h
  match q, h with
  | 1, h | 2, h | 4, h | 5, h | 8, h | 9, h | 10, h | 11, h | 12, h | 14, h => exact h
  | 0, h => obtain ⟨x0, e, hr⟩ := h; exact ⟨x0, e, hr.kept hk hT⟩
  | 3, h | 6, h | 7, h | 13, h => obtain ⟨x0, x1, e, hr⟩ := h; exact ⟨x0, x1, e, hr.kept hk hT⟩
  | q + 15, _ => trivial
 case s1t =>
  as_aux_lemma =>
  intro F L act W q o h ho K3 hS hK
  match q, ho with
  | 0, ho =>
   cases ho
   have hsz := h.size
   clear h hK
   go_simp
   exact hS rfl _ _ (kept_alloc _ _ _) ⟨_, rfl, .new (made_rowG W 9) (by omega)⟩
  | 1, ho | 8, ho =>
   cases ho
   have a2 : act.tmps[2]? = some _ := h.out 2 (by decide)
   clear h hK
   go_simp
   exact hS rfl _ _ (Kept.refl _ _) rfl
  | 2, ho =>
   cases ho
   have v1 := h.val 1 rfl (by kernel_rfl) rfl fun _ h => h
   have hD := h.d
   obtain ⟨xa0, xa1, xa2, xa3, xa4, xa5⟩ := row6 (HXA.out W hD)
   have HD := Lib.hid hD
   clear hD h hK
   go_simp
   exact hS rfl _ _ (Kept.refl _ _) rfl
  | 3, ho =>
   cases ho
   obtain ⟨_, v0, gz0, rfl, hr0⟩ := h.has 0 rfl (by kernel_rfl) rfl
   have v2 := h.val 2 rfl (by kernel_rfl) rfl fun _ h => h
   have hsz := h.size
   have hD := h.d
   have hsc := (show Cells W AOa (strs a.outer) from (by obtain ⟨A', c', e, h⟩ := (HGA.out W (HB0.out.trans (hD.mono HB0.out.size))).o; cases e; exact h))
   have HD := Lib.hid hD
   clear hD h hK
   refine step_appC el_strG rfl (.tmp 7) (.tmp 9) rfl w0.heap.size (.slice (some ⟨gz0, 0, none⟩) 0 0) (0) ([]) (by simp [Act.eval, *]) (hr0.1) (AOa) (a.outer.length) (cOa) (strs a.outer) (by simp [Act.eval, *]) (strs_size _) (hsc) (strs_cell1 _) (by omega) (by omega) ?_
   intro v' W' ho hk hm
   rw [Nat.zero_add, List.nil_append] at ho
   obtain ⟨Ax, cx, rfl, ho⟩ := owns_form ho
   exact hS rfl _ _ (hr0.src hk (by decide)) (⟨_, _, rfl, hr0.app ho hm (by decide)⟩)
  | 4, ho | 10, ho =>
   cases ho
   have a3 : act.tmps[3]? = some _ := h.out 3 (by decide)
   clear h hK
   go_simp
   exact hS rfl _ _ (Kept.refl _ _) rfl
  | 5, ho =>
   cases ho
   have v4 := h.val 4 rfl (by kernel_rfl) rfl fun _ h => h
   have hD := h.d
   obtain ⟨xb0, xb1, xb2, xb3, xb4, xb5⟩ := row6 (HXB.out W hD)
   have HD := Lib.hid hD
   clear hD h hK
   go_simp
   exact hS rfl _ _ (Kept.refl _ _) rfl
  | 6, ho =>
   cases ho
   obtain ⟨_, v3, A3, c3, rfl, hr3⟩ := h.has 3 rfl (by kernel_rfl) rfl
   have v5 := h.val 5 rfl (by kernel_rfl) rfl fun _ h => h
   have hsz := h.size
   have hD := h.d
   have hsc := (show Cells W AOb (strs b.outer) from (by obtain ⟨A', c', e, h⟩ := (HGB.out W (HB0.out.trans (hD.mono HB0.out.size))).o; cases e; exact h))
   have HD := Lib.hid hD
   clear hD h hK
   refine step_appC el_strG rfl (.tmp 10) (.tmp 12) rfl w0.heap.size (.slice A3 a.outer.length c3) (a.outer.length) (strs a.outer) (by simp [Act.eval, *]) (hr3.1) (AOb) (b.outer.length) (cOb) (strs b.outer) (by simp [Act.eval, *]) (strs_size _) (hsc) (strs_cell1 _) (by omega) (by omega) ?_
   intro v' W' ho hk hm
   rw [← List.length_append, ← strs_cat, ← HABE.out] at ho
   obtain ⟨Ax, cx, rfl, ho⟩ := owns_form ho
   exact hS rfl _ _ (hr3.src hk (by decide)) (⟨_, _, rfl, hr3.app ho hm (by decide)⟩)
  | 7, ho =>
   cases ho
   obtain ⟨_, v6, A6, c6, rfl, hr6⟩ := h.has 6 rfl (by kernel_rfl) rfl
   have hsz := h.size
   have hsc := hr6.cells
   clear h hK
   go_simp
   go_at_call 195
   refine (l2Sorted_any A6 c6 ab W (by omega) hsc).mono ?_
   rintro e W' ⟨g0, c0, rfl, ho, hbq⟩
   rw [← HSOE.out] at ho ⊢
   go_simp
   exact hS rfl _ _ (Kept.of_below hbq _) (⟨_, _, rfl, .new ho (by omega)⟩)
  | 9, ho =>
   cases ho
   have v8 := h.val 8 rfl (by kernel_rfl) rfl fun _ h => h
   have hD := h.d
   obtain ⟨xa0, xa1, xa2, xa3, xa4, xa5⟩ := row6 (HXA.out W hD)
   have HD := Lib.hid hD
   clear hD h hK
   go_simp
   exact hS rfl _ _ (Kept.refl _ _) rfl
  | 11, ho =>
   cases ho
   have v10 := h.val 10 rfl (by kernel_rfl) rfl fun _ h => h
   have hD := h.d
   obtain ⟨xb0, xb1, xb2, xb3, xb4, xb5⟩ := row6 (HXB.out W hD)
   have HD := Lib.hid hD
   clear hD h hK
   go_simp
   exact hS rfl _ _ (Kept.refl _ _) rfl
  | 12, ho =>
   cases ho
   have v9 := h.val 9 rfl (by kernel_rfl) rfl fun _ h => h
   have v11 := h.val 11 rfl (by kernel_rfl) rfl fun _ h => h
   clear h hK
   go_simp
   exact hS rfl _ _ (Kept.refl _ _) (show Value.int .i64 (IntKind.i64.wrap (a.edges + b.edges)) = .int .i64 E from by rw [IntWalk.i64_in _ (by omega), HEE.out])
  | 13, ho =>
   cases ho
   obtain ⟨_, v7, A7, c7, rfl, hr7⟩ := h.has 7 rfl (by kernel_rfl) rfl
   clear h hK
   go_simp
   exact hS rfl _ _ (Kept.refl _ _) ⟨_, _, rfl, hr7.same (by decide)⟩
  | 14, ho =>
   cases ho
   have v12 := h.val 12 rfl (by kernel_rfl) rfl fun _ h => h
   clear h hK
   go_simp
   exact hS rfl _ _ (Kept.refl _ _) rfl
  | q + 15, ho => simp at ho
 intro V F W hsW HD0 hV hfl hdj
 have v1 : V 1 = _ := hV 1 rfl (by kernel_rfl)
 have v2 : V 2 = _ := hV 2 rfl (by kernel_rfl)
 have v4 : V 4 = _ := hV 4 rfl (by kernel_rfl)
 have v5 : V 5 = _ := hV 5 rfl (by kernel_rfl)
 obtain ⟨A6, c6, v6, hr6⟩ := hV 6 rfl (by kernel_rfl)
 have v8 : V 8 = _ := hV 8 rfl (by kernel_rfl)
 have v9 : V 9 = _ := hV 9 rfl (by kernel_rfl)
 have v10 : V 10 = _ := hV 10 rfl (by kernel_rfl)
 have v11 : V 11 = _ := hV 11 rfl (by kernel_rfl)
 have v12 : V 12 = _ := hV 12 rfl (by kernel_rfl)
 obtain ⟨A13, c13, v13, hr13⟩ := hV 13 rfl (by kernel_rfl)
 have v14 : V 14 = _ := hV 14 rfl (by kernel_rfl)
 clear hV
 simp only [layV, List.setIfInBounds_toArray, List.set_cons_zero, List.set_cons_succ, v1, v2, v4, v5, v6, v8, v9, v10, v11, v12, v13, v14]
 clear v1 v2 v4 v5 v6 v8 v9 v10 v11 v12 v13 v14
 generalize V 0 = u0
 generalize V 3 = u3
 generalize V 7 = u7
 have HZ2 := Lib.hid HD0
 have HC2 := Lib.hid (show ∀ W2, Below W.heap.size W W2 → Cells W2 A13 (strs so) from fun W2 hb => hr13.cells.below hb)
 obtain ⟨w2, hw2⟩ : ∃ w2, w2 = W := ⟨_, rfl⟩
 subst hw2
 have hz2 := HZ2.out.size
 clear hr6 hr13 hfl hdj HD0 F
 go_wp2_with fail
 refine wp_region_y (by kernel_rfl) [some 20, some 21, some 22, some 23, some 24, some 25, some 26, some 27, some 28, some 29, some 30, some 31, some 32, some 33, none] [14] (fun q => match q with  | _ => []) (fun q v F W => match q with | 0 => v = .agg #[.int .i64 a.roots, .slice ANa a.nodes.length cNa, .slice ASa a.sites.length cSa, .int .i64 a.edges, .slice AOa a.outer.length cOa, .slice AIa a.inner.length cIa] | 1 => v = .agg #[.int .i64 b.roots, .slice ANb b.nodes.length cNb, .slice ASb b.sites.length cSb, .int .i64 b.edges, .slice AOb b.outer.length cOb, .slice AIb b.inner.length cIb] | 2 => v = .slice A13 so.length c13 | 3 => v = .pointer (some ⟨w.heap.size, 4, none⟩) | 4 => v = .slice AOa a.outer.length cOa | 5 => v = .int .i64 E | 6 => v = .slice A13 so.length c13 | 7 => ∃ A c, v = .slice A nA.length c ∧ OwnF W w0.heap.size F 3 1 (.slice A nA.length c) nA.length (ints nA) | 8 => v = .pointer (some ⟨w.heap.size + 1, 4, none⟩) | 9 => v = .slice AOb b.outer.length cOb | 10 => v = .int .i64 E | 11 => v = .slice A13 so.length c13 | 12 => ∃ A c, v = .slice A nB.length c ∧ OwnF W w0.heap.size F 3 1 (.slice A nB.length c) nB.length (ints nB) | 13 => ∃ (X : BX), v = .agg X.cells ∧ X.g = nestG a b (sortS (a.outer ++ b.outer)) ∧ OBF W w0.heap.size F X | _ => True) (fun l W => match l with | [false] => Below w2.heap.size w2 W | _ => ∃ X : BX, W.heap[w.heap.size + 1 + 1]? = some (.cells X.cells 31) ∧ X.g = nestG a b (sortS (a.outer ++ b.outer)) ∧ RG w W X) (by kernel_rfl) (by kernel_rfl) (by kernel_rfl) ?k2e ?k2d (Below.refl _ _).drew ?s2t ?f2i
 case k2d =>
  exact keepD_last (by kernel_rfl)
 case k2e =>
  intro T F q v W W' hk hT h
  match q, h with
  | 0, h | 1, h | 2, h | 3, h | 4, h | 5, h | 6, h | 8, h | 9, h | 10, h | 11, h | 14, h => exact h
  | 7, h | 12, h => obtain ⟨x0, x1, e, hr⟩ := h; exact ⟨x0, x1, e, hr.kept hk hT⟩
  | 13, h => obtain ⟨x0, e, hr⟩ := h; exact ⟨x0, e, ⟨hr.1, hr.2.kept hk hT⟩⟩
  | q + 15, _ => trivial
 case s2t =>
  as_aux_lemma =>
  intro F L act W q o h ho K3 hS hK
  match q, ho with
  | 0, ho =>
   cases ho
   have a2 : act.tmps[2]? = some _ := h.out 2 (by decide)
   have hD := h.d
   have hn := h.off 14 (by kernel_rfl)
   simp only [List.map_cons, List.map_nil, hn] at hD
   obtain ⟨xa0, xa1, xa2, xa3, xa4, xa5⟩ := row6 (HXA.out W (HZ2.out.trans (hD.mono HZ2.out.size)))
   have HD := Lib.hid hD
   clear hD h hK
   go_simp
   exact hS rfl _ _ (Kept.refl _ _) rfl
  | 1, ho =>
   cases ho
   have a3 : act.tmps[3]? = some _ := h.out 3 (by decide)
   have hD := h.d
   have hn := h.off 14 (by kernel_rfl)
   simp only [List.map_cons, List.map_nil, hn] at hD
   obtain ⟨xb0, xb1, xb2, xb3, xb4, xb5⟩ := row6 (HXB.out W (HZ2.out.trans (hD.mono HZ2.out.size)))
   have HD := Lib.hid hD
   clear hD h hK
   go_simp
   exact hS rfl _ _ (Kept.refl _ _) rfl
  | 2, ho | 6, ho | 11, ho =>
   cases ho
   have a5 : act.tmps[5]? = some _ := h.out 5 (by decide)
   clear h hK
   go_simp
   exact hS rfl _ _ (Kept.refl _ _) rfl
  | 3, ho =>
   cases ho
   have a2 : act.tmps[2]? = some _ := h.out 2 (by decide)
   clear h hK
   go_simp
   exact hS rfl _ _ (Kept.refl _ _) rfl
  | 4, ho =>
   cases ho
   have v3 := h.val 3 rfl (by kernel_rfl) rfl fun _ h => h
   have hD := h.d
   have hn := h.off 14 (by kernel_rfl)
   simp only [List.map_cons, List.map_nil, hn] at hD
   obtain ⟨xa0, xa1, xa2, xa3, xa4, xa5⟩ := row6 (HXA.out W (HZ2.out.trans (hD.mono HZ2.out.size)))
   have HD := Lib.hid hD
   clear hD h hK
   go_simp
   exact hS rfl _ _ (Kept.refl _ _) rfl
  | 5, ho | 10, ho =>
   cases ho
   have a6 : act.tmps[6]? = some _ := h.out 6 (by decide)
   clear h hK
   go_simp
   exact hS rfl _ _ (Kept.refl _ _) rfl
  | 7, ho =>
   cases ho
   have v4 := h.val 4 rfl (by kernel_rfl) rfl fun _ h => h
   have v5 := h.val 5 rfl (by kernel_rfl) rfl fun _ h => h
   have v6 := h.val 6 rfl (by kernel_rfl) rfl fun _ h => h
   have hsz := h.size
   have hD := h.d
   have hn := h.off 14 (by kernel_rfl)
   simp only [List.map_cons, List.map_nil, hn] at hD
   have HD := Lib.hid hD
   clear hD h hK
   go_simp
   go_at_call 225
   refine (l4Named_n _ _ cOa c13 a.outer so E W hEb (by omega) (by omega) (by obtain ⟨A', c', e, h⟩ := (HGA.out W (HB0.out.trans ((HZ2.out.trans (HD.out.mono HZ2.out.size)).mono HB0.out.size))).o; cases e; exact h) (HC2.out W HD.out)).mono ?_
   rintro e W' ⟨A0, c0, rfl, ho, hbq⟩
   rw [← HNAE.out] at ho ⊢
   go_simp
   exact hS rfl _ _ (Kept.of_below hbq _) (⟨_, _, rfl, .new ho (by omega)⟩)
  | 8, ho =>
   cases ho
   have a3 : act.tmps[3]? = some _ := h.out 3 (by decide)
   clear h hK
   go_simp
   exact hS rfl _ _ (Kept.refl _ _) rfl
  | 9, ho =>
   cases ho
   have v8 := h.val 8 rfl (by kernel_rfl) rfl fun _ h => h
   have hD := h.d
   have hn := h.off 14 (by kernel_rfl)
   simp only [List.map_cons, List.map_nil, hn] at hD
   obtain ⟨xb0, xb1, xb2, xb3, xb4, xb5⟩ := row6 (HXB.out W (HZ2.out.trans (hD.mono HZ2.out.size)))
   have HD := Lib.hid hD
   clear hD h hK
   go_simp
   exact hS rfl _ _ (Kept.refl _ _) rfl
  | 12, ho =>
   cases ho
   have v9 := h.val 9 rfl (by kernel_rfl) rfl fun _ h => h
   have v10 := h.val 10 rfl (by kernel_rfl) rfl fun _ h => h
   have v11 := h.val 11 rfl (by kernel_rfl) rfl fun _ h => h
   have hsz := h.size
   have hD := h.d
   have hn := h.off 14 (by kernel_rfl)
   simp only [List.map_cons, List.map_nil, hn] at hD
   have HD := Lib.hid hD
   clear hD h hK
   go_simp
   go_at_call 225
   refine (l4Named_n _ _ cOb c13 b.outer so E W hEb (by omega) (by omega) (by obtain ⟨A', c', e, h⟩ := (HGB.out W (HB0.out.trans ((HZ2.out.trans (HD.out.mono HZ2.out.size)).mono HB0.out.size))).o; cases e; exact h) (HC2.out W HD.out)).mono ?_
   rintro e W' ⟨A0, c0, rfl, ho, hbq⟩
   rw [← HNBE.out] at ho ⊢
   go_simp
   exact hS rfl _ _ (Kept.of_below hbq _) (⟨_, _, rfl, .new ho (by omega)⟩)
  | 13, ho =>
   cases ho
   have v0 := h.val 0 rfl (by kernel_rfl) rfl fun _ h => h
   have v1 := h.val 1 rfl (by kernel_rfl) rfl fun _ h => h
   have v2 := h.val 2 rfl (by kernel_rfl) rfl fun _ h => h
   obtain ⟨_, v7, A7, c7, rfl, hr7⟩ := h.has 7 rfl (by kernel_rfl) rfl
   obtain ⟨_, v12, A12, c12, rfl, hr12⟩ := h.has 12 rfl (by kernel_rfl) rfl
   have hsz := h.size
   have hD := h.d
   have hn := h.off 14 (by kernel_rfl)
   simp only [List.map_cons, List.map_nil, hn] at hD
   have hc7 := hr7.cells
   have hc12 := hr12.cells
   have HD := Lib.hid hD
   clear hD h hK
   go_simp
   go_at_call 224
   refine (l4Under_any sig a b _ _ _ _ _ _ _ _ _ _ _ c13 c7 c12 so nA nB W HSA.out HSB.out HPA.out HPB.out HSR.out HLA.out HLB.out (by omega) (HC2.out W HD.out) hc7 hc12 (HGA.out W (HB0.out.trans ((HZ2.out.trans (HD.out.mono HZ2.out.size)).mono HB0.out.size))) (HGB.out W (HB0.out.trans ((HZ2.out.trans (HD.out.mono HZ2.out.size)).mono HB0.out.size)))).mono ?_
   rintro e W' ⟨X, rfl, hXg, hrg⟩
   rw [HUG.out] at hXg
   have hbq := hrg.bel
   go_simp
   exact hS rfl _ _ (Kept.of_below hbq _) (⟨X, rfl, hXg, OBF.of_rg hrg (by omega)⟩)
  | 14, ho =>
   cases ho
   have a4 : act.tmps[4]? = some _ := h.out 4 (by decide)
   obtain ⟨_, v13, X13, rfl, hr13⟩ := h.has 13 rfl (by kernel_rfl) rfl
   have hD := h.d
   have hn := h.off 14 (by kernel_rfl)
   simp only [List.map_cons, List.map_nil, hn] at hD
   obtain ⟨hXg, hob⟩ := hr13
   obtain ⟨xr, xe, xnv, xsv, xov, xiv, xns, xls, xss, xos, xis⟩ := X13
   obtain ⟨YN, dN, YS, dS, YO, dO, YI, dI, e1, e2, e3, e4⟩ := hob.ob.form
   dsimp only at e1 e2 e3 e4
   subst e1 e2 e3 e4
   have HOB := Lib.hid hob
   have HXG := Lib.hid hXg
   have hsw := h.size
   have HNO := Lib.hid (show upd L 14 14 = true from upd_same _ _)
   obtain ⟨z0, z1, z2, z3, z4, z5, f0, f1, f2, f3, f4, f5⟩ := row6f (HRR.out W (HZ2.out.trans (hD.mono HZ2.out.size)))
   clear hob hXg hn
   simp only [BX.cells] at v13
   have HD := Lib.hid hD
   clear hD h hS
   go_simp
   have hf := fin6R (X := ⟨xr, xe, .slice YN xns.length dN, .slice YS xss.length dS, .slice YO xos.length dO, .slice YI xis.length dI, xns, xls, xss, xos, xis⟩) (w.heap.size + 1 + 1) HB0.out (by omega) HR0.out (Kept.of_below (HZ2.out.trans (HD.out.mono HZ2.out.size)) (fun q => w.heap.size + 1 + 1 + 1 ≤ q)) (by have h := HOB.out.ob; rw [HS0.out] at h; exact h)
   refine hK undef _ ?_ trivial ?_
   ·exact ((((((Kept.refl _ _).setCell (p := ⟨w.heap.size + 1 + 1, 0, none⟩) (.inl (show w.heap.size + 1 + 1 < w2.heap.size by omega)) _).setCell (p := ⟨w.heap.size + 1 + 1, 1, none⟩) (.inl (show w.heap.size + 1 + 1 < w2.heap.size by omega)) _).setCell (p := ⟨w.heap.size + 1 + 1, 2, none⟩) (.inl (show w.heap.size + 1 + 1 < w2.heap.size by omega)) _).setCell (p := ⟨w.heap.size + 1 + 1, 3, none⟩) (.inl (show w.heap.size + 1 + 1 < w2.heap.size by omega)) _).setCell (p := ⟨w.heap.size + 1 + 1, 4, none⟩) (.inl (show w.heap.size + 1 + 1 < w2.heap.size by omega)) _).setCell (p := ⟨w.heap.size + 1 + 1, 5, none⟩) (.inl (show w.heap.size + 1 + 1 < w2.heap.size by omega)) _
   simp only [List.map_cons, List.map_nil, HNO.out]
   exact ⟨_, hf.1, HXG.out, hf.2⟩
  | q + 15, ho => simp at ho
 intro V F W hsW HD0 hV hfl hdj
 have v0 : V 0 = _ := hV 0 rfl (by kernel_rfl)
 have v1 : V 1 = _ := hV 1 rfl (by kernel_rfl)
 have v2 : V 2 = _ := hV 2 rfl (by kernel_rfl)
 have v3 : V 3 = _ := hV 3 rfl (by kernel_rfl)
 have v4 : V 4 = _ := hV 4 rfl (by kernel_rfl)
 have v5 : V 5 = _ := hV 5 rfl (by kernel_rfl)
 have v6 : V 6 = _ := hV 6 rfl (by kernel_rfl)
 obtain ⟨A7, c7, v7, hr7⟩ := hV 7 rfl (by kernel_rfl)
 have v8 : V 8 = _ := hV 8 rfl (by kernel_rfl)
 have v9 : V 9 = _ := hV 9 rfl (by kernel_rfl)
 have v10 : V 10 = _ := hV 10 rfl (by kernel_rfl)
 have v11 : V 11 = _ := hV 11 rfl (by kernel_rfl)
 obtain ⟨A12, c12, v12, hr12⟩ := hV 12 rfl (by kernel_rfl)
 obtain ⟨X13, v13, hr13⟩ := hV 13 rfl (by kernel_rfl)
 clear hV
 simp only [layV, List.setIfInBounds_toArray, List.set_cons_zero, List.set_cons_succ, v0, v1, v2, v3, v4, v5, v6, v7, v8, v9, v10, v11, v12, v13]
 clear v0 v1 v2 v3 v4 v5 v6 v7 v8 v9 v10 v11 v12 v13
 obtain ⟨X, hX, hXg, hrg⟩ := HD0
 clear hfl hdj
 have HXX := Lib.hid hX
 have HXG := Lib.hid hXg
 have HRG := Lib.hid hrg
 clear hX hXg hrg
 go_wp2_with fail
 (try simp only [Exit.inBlock, Exit.then])
 refine bodyPost_ret (results_cell_row rfl _ _ (w.heap.size + 1 + 1) _ _ _ _ rfl HXX.out Tryz.underlying31 rfl (by kernel_rfl)) rfl ?_
 exact ⟨_, rfl, HXG.out, HRG.out⟩

end Go.Proofs.YtijkdpdmclkmlaaGreatDoor
