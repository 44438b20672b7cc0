/- The draw of an order. -/
import Derived.Test.YtijkdpdmclkmlaaGreatDoorProg
import Derived.Test.YtijkdpdmclkmlaaGreatDoorJ0
import Derived.Test.YtijkdpdmclkmlaaGreatDoorJ4
import Derived.Test.YtijkdpdmclkmlaaGreatDoorJ17
import Derived.BigQuiet
set_option linter.unusedSimpArgs false
set_option linter.unusedVariables false
set_option maxRecDepth 100000
set_option maxHeartbeats 16000000
namespace Go.Proofs.YtijkdpdmclkmlaaGreatDoor
open Go.RowKit
/-- A list of numbers that has been drawn: it reads as l while nothing at B or above turns. -/
structure DI3 (B : Nat) (w' : World) (v : Value) (l : List Int) : Prop where
 own : w'.ownsRow B 3 1 v l.length (ints l)
 ex : ∃ P d, v = .slice P l.length d ∧ ∀ W, Kept (fun q => q < B) w' W → Cells W P (ints l)
 len : l.length ≤ 40
 bd : ∀ x ∈ l, -1 ≤ x ∧ x ≤ 40
theorem di3_own {B : Nat} {w' : World} {v : Value} {l : List Int} (h : w'.ownsRow B 3 1 v l.length (ints l)) (h1 : l.length ≤ 40) (h2 : ∀ x ∈ l, -1 ≤ x ∧ x ≤ 40) : DI3 B w' v l := by
 have h0 := h
 obtain ⟨P, d, rfl, h⟩ := owns_form h
 exact { own := h0, ex := ⟨P, d, rfl, fun W hk => Cells.of_owns (ownsK h hk (fun g hg e => by have := (h.lt g hg).1; omega))⟩, len := h1, bd := h2 }
theorem mem_ins {t : List Int} {k : Nat} {y x : Int} (h : x ∈ t.take k ++ [y] ++ t.drop k) : x = y ∨ x ∈ t := by
 rcases List.mem_append.1 h with h | h
 ·rcases List.mem_append.1 h with h | h
  ·exact .inr (List.mem_of_mem_take h)
  exact .inl (by simpa using h)
 exact .inr (List.mem_of_mem_drop h)

theorem order_any (p : Nat) (A : Option Addr) (bs : List Int) (c K n : Nat) (w : World) (hC : Cur w p A bs c K) (hK : K ≤ 10000000000000) (hn : n ≤ 30) :
  Calls Tryz.prog 96 #[.pointer (some ⟨p, 0, none⟩), .int .i64 (n : Int)] w fun e w' => ∃ v l, e = .returned v ∧ DI3 w.heap.size w' v l ∧ Cur w' p A bs c (K + 100) ∧ Kept (fun q => q = p) w w' := by
 have hpw := hC.lt
 obtain ⟨w0, hw0, hb0, -⟩ := laid1 w (.cells #[] 3)
 have HO0 := Lib.hid (show w0.ownsRow w.heap.size 3 1 (.slice (some ⟨w.heap.size, 0, none⟩) 0 0) 0 (ints []) from by rw [hw0]; exact made_rowG w 3)
 have HC0 := Lib.hid (hC.below hb0)
 have HB0 := Lib.hid hb0
 have HW0 := Lib.hid hw0
 clear hC hb0 hw0
 go_enter Tryz.func96, Tryz.ntmps96
 go_wp2_with fail
 rw [← HW0.out]
 go_loopw [5, 6] (fun u z wr => ∃ (i g d : Nat) (t : List Int) (K1 : Nat), i ≤ n ∧ z = .int .i64 i ∧ t.length = i ∧ u = .slice (some ⟨g, 0, none⟩) i d ∧ wr.ownsRow w.heap.size 3 1 (.slice (some ⟨g, 0, none⟩) i d) i (ints t) ∧ (∀ x ∈ t, -1 ≤ x ∧ x ≤ 40) ∧ K1 ≤ K + 2 * i ∧ Cur wr p A bs c K1 ∧ Kept (fun q => q = p) w wr)
  (fun u z _ => n - (intOf z).toNat)
 case atStart => exact ⟨0, w.heap.size, 0, [], K, Nat.zero_le _, rfl, rfl, rfl, HO0.out, fun x hx => by simp at hx, by omega, HC0.out, Kept.of_below HB0.out _⟩
 obtain ⟨i, g0, c0, t, K1, hi, rfl, htl, rfl, hown, hbd, hK1, hcur, hkept⟩ := hrel
 have HO := Lib.hid hown
 have HTL := Lib.hid htl
 have HBD := Lib.hid hbd
 have HCU := Lib.hid hcur
 have HKE := Lib.hid hkept
 have hws := hkept.size
 have hoc := owns_capOk hown _ _ _ rfl
 clear hown hbd hcur hkept htl
 by_cases hlt : i < n
 ·have H1 := Lib.hid (pick_any p A bs c K1 ((i : Int) + 1) wr HCU.out (by omega) (by omega))
  go_wp2_with fail
  (with_reducible refine H1.out.mono ?_)
  rintro e w1 ⟨x, rfl, hx0, hx1, hc1, hk1⟩
  obtain ⟨k, rfl⟩ := Int.eq_ofNat_of_zero_le hx0
  have hki : k ≤ i := by have := hx1 (by omega); omega
  have HC1 := Lib.hid hc1
  have HK1 := Lib.hid (HKE.out.trans hk1)
  have HO1 := Lib.hid (ownsK HO.out hk1 (fun g hg e => by have := (HO.out.lt g hg).1; omega))
  have hw1 := hk1.size
  clear hc1 hk1 H1 hx0 hx1
  obtain ⟨wq, hwq⟩ : ∃ wq, wq = w1 := ⟨_, rfl⟩
  subst hwq
  have d2 : (0 : Int) ≤ (k : Int) := by omega
  have d3 : (k : Int) ≤ (i : Int) := by omega
  have d4 : (k : Int) ≤ (c0 : Int) := by omega
  obtain ⟨pre, hpre⟩ : ∃ pre, pre = ints (t.take k) := ⟨_, rfl⟩
  obtain ⟨post, hpost⟩ : ∃ post, post = ints (t.drop k) := ⟨_, rfl⟩
  have hpl : pre.length = k := by have := HTL.out; rw [hpre, ints, List.length_map, List.length_take]; omega
  have hql : post.length = i - k := by have := HTL.out; rw [hpost, ints, List.length_map, List.length_drop]; omega
  have HCE := Lib.hid (show ∀ W, Below wq.heap.size wq W → Cells W (some ⟨g0, 0, none⟩) (ints t) from fun W hb => (Cells.of_owns HO1.out).below hb)
  have HPRE := Lib.hid (show ∀ W, Below wq.heap.size wq W → Cells W (some ⟨g0, 0, none⟩) pre from fun W hb => by
   rw [hpre, ints, List.map_take]; exact cells_take0 (HCE.out W hb) k)
  have HPOST := Lib.hid (show ∀ W, Below wq.heap.size wq W → Cells W (some ⟨g0, k, none⟩) post from fun W hb => by
   rw [hpost, ints, List.map_drop]; have h := cells_drop0 (HCE.out W hb) k; rw [Nat.zero_add] at h; exact h)
  have HP1 := Lib.hid (show ∀ u ∈ pre, u.oneCell' = true from by rw [hpre]; exact ints_one1 _)
  have HP2 := Lib.hid (show ∀ u ∈ post, u.oneCell' = true from by rw [hpost]; exact ints_one1 _)
  have HRES := Lib.hid (show pre ++ [Value.int .i64 (i : Int)] ++ post = ints (t.take k ++ [(i : Int)] ++ t.drop k) ∧ pre.length + 1 + post.length = i + 1 from by
   refine ⟨by rw [hpre, hpost]; simp [ints], by omega⟩)
  have HLN := Lib.hid (show (t.take k ++ [(i : Int)] ++ t.drop k).length = i + 1 from by
   have := HTL.out
   simp only [List.length_append, List.length_take, List.length_drop, List.length_cons, List.length_nil]; omega)
  have HBN := Lib.hid (show ∀ x ∈ t.take k ++ [(i : Int)] ++ t.drop k, -1 ≤ x ∧ x ≤ 40 from fun x hx => by
   rcases mem_ins hx with rfl | h
   ·omega
   exact HBD.out x h)
  clear hpre hpost
  go_wp2_with fail
  refine wp_region_fill (by kernel_rfl) [some 19, some 20, some 21, some 22, some 23, some 24, some 25, some 26, some 27, some 28, some 29, some 30, some 5] (fun q v => match q with | 0 => ∃ gg, v = .slice (some ⟨gg, 0, none⟩) 0 0 | 1 => v = .slice (some ⟨g0, 0, none⟩) i c0 | 2 => v = .int .i64 (k : Int) | 3 => v = .slice (some ⟨g0, 0, none⟩) k c0 | 4 => True | 5 => v = .int .i64 (i : Int) | 6 => ∃ gg, v = .slice (some ⟨gg, 0, none⟩) 1 1 | 7 => True | 8 => v = .slice (some ⟨g0, 0, none⟩) i c0 | 9 => v = .int .i64 (k : Int) | 10 => ∃ PP c2, v = .slice PP (i - k) c2 ∧ (i = k ∨ PP = some ⟨g0, k, none⟩) | 11 => True | 12 => True | _ => True) (fun L V W => InsF 3 wq pre post (.int .i64 (i : Int)) (L 0) (L 4) (L 6) (L 7) (L 11) (V 0) (V 4) (V 6) (V 7) (V 11) W ∧ (L 12 = true → V 12 = V 11)) (by kernel_rfl) (by kernel_rfl) ?h10 ?s1t ?f1i
  case h10 => exact fun V => ⟨InsF.start, fun h => (nomatch h)⟩
  case s1t =>
   as_aux_lemma =>
    intro L V act W q oo hJ hC hL ho hd K3 hK3
    match q, ho with
    | 0, ho =>
     cases ho
     have n4 : L 4 = false := dc_no hC hL (by kernel_rfl)
     have n7 : L 7 = false := dc_no hC hL (by kernel_rfl)
     have n11 : L 11 = false := dc_no hC hL (by kernel_rfl)
     have hF := hJ.f
     clear hd
     rw [hL] at hF
     have HH := Lib.hid (And.intro (hF.1.one n4 n7 n11) hF.2)
     clear hJ hC hF
     go_simp
     exact hK3 _ _ ⟨_, rfl⟩ (by simpa [upd, updV] using HH.out)
    | 1, ho | 8, ho =>
     cases ho
     have n12 : L 12 = false := dc_no hC hL (by kernel_rfl)
     have a5 : act.tmps[5]? = some (.slice (some ⟨g0, 0, none⟩) i c0) := hJ.old (qa := 12) rfl n12
     have hF := hJ.f
     have HF := Lib.hid hF
     clear hJ hC hd hF
     go_simp
     exact hK3 _ _ rfl HF.out
    | 2, ho | 9, ho =>
     cases ho
     have a7 : act.tmps[7]? = some _ := hJ.outN 7 (by decide)
     have hF := hJ.f
     have HF := Lib.hid hF
     clear hJ hC hd hF
     go_simp
     exact hK3 _ _ rfl HF.out
    | 3, ho =>
     cases ho
     simp [Region.binds] at hd
     have v1 := hJ.val (by simp [hd] : L 1 = true) rfl fun _ h => h
     have v2 := hJ.val (by simp [hd] : L 2 = true) rfl fun _ h => h
     have hF := hJ.f
     have HF := Lib.hid hF
     clear hJ hC hd hF
     go_simp
     exact hK3 _ _ rfl HF.out
    | 4, ho =>
     cases ho
     simp [Region.binds] at hd
     have l0 : L 0 = true := by simp [hd]
     have v0 := hJ.has 0 19 l0 rfl
     obtain ⟨gg, e0⟩ := (hJ.s 0 l0 : ∃ gg, V 0 = .slice (some ⟨gg, 0, none⟩) 0 0)
     rw [e0] at v0
     have v3 := hJ.val (by simp [hd] : L 3 = true) rfl fun _ h => h
     have n7 : L 7 = false := dc_no hC hL (by kernel_rfl)
     have n11 : L 11 = false := dc_no hC hL (by kernel_rfl)
     have hF := hJ.f
     clear hd
     rw [l0, hL] at hF
     have vs := hJ.has 0 19 l0 rfl
     refine step_appC el_intG rfl (.tmp 19) (.tmp 22) rfl wq.heap.size (V 0) 0 [] (by simp [Act.eval, vs]) (hF.1.r0 rfl rfl) (some ⟨g0, 0, none⟩) k c0 pre (by simp [Act.eval, v3]) (by omega) (HPRE.out W hF.1.bel) HP1.out (by omega) hF.1.size ?_
     intro v' W' ho hk hm
     rw [List.nil_append, Nat.zero_add, ← hpl] at ho
     have h := And.intro (hF.1.two n7 n11 ho hk hm) hF.2
     exact hK3 _ _ trivial (by simpa [upd, updV, l0] using h)
    | 5, ho =>
     cases ho
     have a6 : act.tmps[6]? = some _ := hJ.outN 6 (by decide)
     have hF := hJ.f
     have HF := Lib.hid hF
     clear hJ hC hd hF
     go_simp
     exact hK3 _ _ rfl HF.out
    | 6, ho =>
     cases ho
     simp [Region.binds] at hd
     have v5 := hJ.val (by simp [hd] : L 5 = true) rfl fun _ h => h
     have n7 : L 7 = false := dc_no hC hL (by kernel_rfl)
     have n11 : L 11 = false := dc_no hC hL (by kernel_rfl)
     have hF := hJ.f
     clear hd
     rw [hL] at hF
     have HH := Lib.hid (And.intro (hF.1.lit n7 n11) hF.2)
     clear hJ hC hF
     go_simp
     exact hK3 _ _ ⟨_, rfl⟩ (by simpa [upd, updV] using HH.out)
    | 7, ho =>
     cases ho
     simp [Region.binds] at hd
     have l4 : L 4 = true := by simp [hd]
     have l6 : L 6 = true := by simp [hd]
     have v6 := hJ.has 6 25 l6 rfl
     obtain ⟨gg, e6⟩ := (hJ.s 6 l6 : ∃ gg, V 6 = .slice (some ⟨gg, 0, none⟩) 1 1)
     rw [e6] at v6
     have n11 : L 11 = false := dc_no hC hL (by kernel_rfl)
     have hF := hJ.f
     clear hd
     rw [l4, l6, hL] at hF
     have vs := hJ.has 4 23 l4 rfl
     obtain ⟨gl, el, hgl, _, _, _⟩ := hF.1.l2 rfl rfl
     have vx := hJ.has 6 25 l6 rfl
     rw [el] at vx
     refine step_appC el_intG rfl (.tmp 23) (.tmp 25) rfl wq.heap.size (V 4) pre.length pre (by simp [Act.eval, vs]) (hF.1.r1 rfl rfl) (some ⟨gl, 0, none⟩) 1 1 [.int .i64 (i : Int)] (by simp [Act.eval, vx]) rfl (cellsG (cs := [.int .i64 (i : Int)]) hgl) (one1 rfl) (by omega) hF.1.size ?_
     intro v' W' ho hk hm
     have h := And.intro (hF.1.three n11 ho hk) hF.2
     exact hK3 _ _ trivial (by simpa [upd, updV, l4, l6] using h)
    | 10, ho =>
     cases ho
     simp [Region.binds] at hd
     have v8 := hJ.val (by simp [hd] : L 8 = true) rfl fun _ h => h
     have v9 := hJ.val (by simp [hd] : L 9 = true) rfl fun _ h => h
     have hF := hJ.f
     clear hd
     have HF := Lib.hid hF
     clear hJ hC hF
     by_cases hck : c0 = k
     ·have hnk : i = k := by omega
      have h0 : i - k = 0 := by omega
      have hk1 : ((k : Int) == (c0 : Int)) = true := by rw [hck]; exact beq_self_eq_true _
      have hk3 : (i : Int) = (k : Int) := by omega
      go_simp
      exact hK3 _ _ ⟨some ⟨g0, 0, none⟩, 0, by first | rfl | rw [h0] | simp [h0], .inl hnk⟩ HF.out
     have hck2 : ¬ k = c0 := fun h => hck h.symm
     have hke : ((k : Int) == (c0 : Int)) = false := by rw [beq_eq_false_iff_ne]; omega
     go_simp
     exact hK3 _ _ ⟨some ⟨g0, k, none⟩, c0 - k, by first | rfl | rw [Nat.sub_self], .inr rfl⟩ HF.out
    | 11, ho =>
     cases ho
     simp [Region.binds] at hd
     have l7 : L 7 = true := by simp [hd]
     have l10 : L 10 = true := by simp [hd]
     have v10 := hJ.has 10 29 l10 rfl
     obtain ⟨PP, c2, e10, hs10⟩ := (hJ.s 10 l10 : ∃ PP c2, V 10 = .slice PP (i - k) c2 ∧ (i = k ∨ PP = some ⟨g0, k, none⟩))
     rw [e10] at v10
     have hF := hJ.f
     clear hd
     have l4 : L 4 = true := by
      have c7 := hC 7 _ rfl l7
      simp [Region.binds] at c7
      simp [c7]
     have n12 : L 12 = false := dc_no hC hL (by kernel_rfl)
     rw [l7, hL] at hF
     have vs := hJ.has 7 26 l7 rfl
     have hcs : Cells W PP post := by
      rcases hs10 with h0 | h0
      ·have : post = [] := List.length_eq_zero_iff.1 (by omega)
       rw [this]; exact fun j u hj => by simp at hj
      rw [h0]; exact HPOST.out W hF.1.bel
     refine step_appC el_intG rfl (.tmp 26) (.tmp 29) rfl wq.heap.size (V 7) (pre.length + 1) (pre ++ [.int .i64 (i : Int)]) (by simp [Act.eval, vs]) (hF.1.r3 rfl rfl) PP (i - k) c2 post (by simp [Act.eval, v10]) (by omega) hcs HP2.out (by omega) hF.1.size ?_
     intro v' W' ho hk hm
     rw [← hql] at ho
     have h := And.intro (hF.1.four l4 ho hk) (show L 12 = true → V 12 = v' from fun h => by rw [n12] at h; cases h)
     exact hK3 _ _ trivial (by simpa [upd, updV, l7] using h)
    | 12, ho =>
     cases ho
     simp [Region.binds] at hd
     have l11 : L 11 = true := by simp [hd]
     have hF := hJ.f
     clear hd
     have va := hJ.has 11 30 l11 rfl
     have HF := Lib.hid hF
     clear hJ hC hF
     go_simp
     exact hK3 _ _ trivial ⟨HF.out.1, fun _ => rfl⟩
    | q + 13, ho => simp at ho
  intro L V W hL hV hF
  have l0 := hL 0 (by decide)
  have l1 := hL 1 (by decide)
  have l2 := hL 2 (by decide)
  have l3 := hL 3 (by decide)
  have l4 := hL 4 (by decide)
  have l5 := hL 5 (by decide)
  have l6 := hL 6 (by decide)
  have l7 := hL 7 (by decide)
  have l8 := hL 8 (by decide)
  have l9 := hL 9 (by decide)
  have l10 := hL 10 (by decide)
  have l11 := hL 11 (by decide)
  have l12 := hL 12 (by decide)
  clear hL
  obtain ⟨gg0, v0⟩ : ∃ gg, V 0 = .slice (some ⟨gg, 0, none⟩) 0 0 := hV 0 (by decide)
  have v1 : V 1 = _ := hV 1 (by decide)
  have v2 : V 2 = _ := hV 2 (by decide)
  have v3 : V 3 = _ := hV 3 (by decide)
  have v5 : V 5 = _ := hV 5 (by decide)
  obtain ⟨gg6, v6⟩ : ∃ gg, V 6 = .slice (some ⟨gg, 0, none⟩) 1 1 := hV 6 (by decide)
  have v8 : V 8 = _ := hV 8 (by decide)
  have v9 : V 9 = _ := hV 9 (by decide)
  obtain ⟨PP10, c210, v10, hs10⟩ : ∃ PP c2, V 10 = .slice PP (i - k) c2 ∧ (i = k ∨ PP = some ⟨g0, k, none⟩) := hV 10 (by decide)
  clear hV
  have hr := hF.1.r4 l11
  have hbl := hF.1.bel
  have vqa := hF.2 l12
  clear hF l0 l1 l2 l3 l4 l5 l6 l7 l8 l9 l10 l11 l12
  rw [HRES.out.1, HRES.out.2] at hr
  obtain ⟨g', c', hv', _⟩ := own_ptr hr (by omega)
  rw [hv'] at hr vqa
  have HR := Lib.hid (owns_mono hr (show w.heap.size ≤ wq.heap.size by omega))
  have HC2 := Lib.hid (HC1.out.below hbl)
  have HK2 := Lib.hid (HK1.out.trans (Kept.of_below hbl _))
  clear hr hbl
  simp only [layV, List.setIfInBounds_toArray, List.set_cons_zero, List.set_cons_succ, v0, v1, v2, v3, v5, v6, v8, v9, v10]
  simp only [vqa]
  go_wp2_with fail
  go_roundw
  case rel => exact ⟨i + 1, g', c', _, K1 + 2, by omega, by go_num, HLN.out, rfl, HR.out, HBN.out, by omega, HC2.out, HK2.out⟩
  case measure => simp [intOf]; omega
 obtain rfl : i = n := by omega
 have H1 := Lib.hid (one_any p A bs c K1 40 wr HCU.out (by omega) (by omega))
 go_wp2_with fail
 (with_reducible refine H1.out.mono ?_)
 rintro e w1 ⟨b, rfl, hc1, hk1⟩
 have HC1 := Lib.hid hc1
 have HK1 := Lib.hid (HKE.out.trans hk1)
 have HO1 := Lib.hid (ownsK HO.out hk1 (fun g hg e => by have := (HO.out.lt g hg).1; omega))
 have hw1 := hk1.size
 clear hc1 hk1 H1
 cases b
 ·have HD := Lib.hid (di3_own (l := t) (by rw [HTL.out]; exact HO1.out) (by have := HTL.out; omega) HBD.out)
  have HC2 := Lib.hid (HC1.out.mono (K' := K + 100) (by omega))
  go_wp2_with fail
  go_ret
  exact ⟨_, t, rfl, HD.out, HC2.out, HK1.out⟩
 have hb5 := (Below.refl w1.heap.size w1).alloc (Nat.le_refl _) (.cells (ints [0, (i : Int), -1]).toArray 3)
 have h5 := among_any p A bs c _ (some ⟨w1.heap.size, 0, none⟩) 3 [0, (i : Int), -1] _ (HC1.out.below hb5) (by omega) (by simp) (by simp) (cells_of_heap (heap_alloc_new _ _)) (fun b' o' e => by cases e; omega)
 have H5 := Lib.hid (show Calls Tryz.prog 88 #[.pointer (some ⟨p, 0, none⟩), .slice (some ⟨w1.heap.size, 0, none⟩) 3 3] (w1.alloc (.cells #[.int .i64 0, .int .i64 (i : Int), .int .i64 (-1)] 3)) _ from h5)
 have HB5 := Lib.hid (show Below w1.heap.size w1 (w1.alloc (.cells #[.int .i64 0, .int .i64 (i : Int), .int .i64 (-1)] 3)) from hb5)
 clear h5 hb5
 go_wp2_with fail
 (with_reducible refine H5.out.mono ?_)
 rintro e w6 ⟨y, rfl, hy, hC6, hK6⟩
 have hy : -1 ≤ y ∧ y ≤ 40 := by
  simp only [List.mem_cons, List.not_mem_nil, or_false] at hy
  rcases hy with rfl | rfl | rfl <;> omega
 have HC6 := Lib.hid hC6
 have HK5 := Lib.hid (HK1.out.trans (Kept.of_below HB5.out _))
 have HO5 := Lib.hid (owns_below HO1.out HB5.out (Nat.le_refl _))
 have HO6 := Lib.hid (ownsK HO5.out hK6 (fun g hg e => by have := (HO5.out.lt g hg).1; omega))
 have HK6 := Lib.hid (HK5.out.trans hK6)
 have hsz6 : w.heap.size ≤ w6.heap.size := by have := HK6.out.size; omega
 clear hC6 hK6
 go_wp2_with (at_builtin; refine wpList_app el_intG rfl _ _ rfl w.heap.size _ _ _ rfl HO6.out [.int .i64 y] rfl rfl rfl (one1 rfl) (by omega) hsz6 ?_; intro v2 w7 ho hk2 hm2)
 have HD := Lib.hid (di3_own (l := t ++ [y]) (by rw [List.length_append, HTL.out, ints_app]; exact ho) (by rw [List.length_append, HTL.out]; simp; omega) (fun x hx => by
  rcases List.mem_append.1 hx with h | h
  ·exact HBD.out x h
  have : x = y := by simpa using h
  omega))
 have hplt : ∀ q, (Value.slice (some ⟨g0, 0, none⟩) i c0).ownBlock = some q → p < q := fun q hq => by have := (HO6.out.lt q hq).1; omega
 have HC7 := Lib.hid ((HC6.out.kept hk2 hplt).mono (K' := K + 100) (by omega))
 have HK7 := Lib.hid (show Kept (fun q => q = p) w w7 from ⟨hk2.os.trans HK6.out.os, hk2.tape.trans HK6.out.tape, hk2.output.trans HK6.out.output, Nat.le_trans hsz6 hk2.size, fun b hb hn => (hk2.block b (by omega) (fun e => by have := (HO6.out.lt b e).1; omega)).trans (HK6.out.block b hb hn)⟩)
 clear ho hk2 hm2 hplt
 go_wp2_with fail
 go_ret
 exact ⟨_, _, rfl, HD.out, HC7.out, HK7.out⟩

end Go.Proofs.YtijkdpdmclkmlaaGreatDoor
