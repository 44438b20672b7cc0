/- Formulas drawn, alone and with a labelled system: the draws of FormulaText, ParseFormula and Satisfying. -/
import Derived.Test.YtdgnhfhaaghoaaaGreatDoorProg
import Derived.Test.YtdgnhfhaaghoaaaGreatDoorJ40
import Derived.Test.YtdgnhfhaaghoaaaGreatDoorJ41
import Derived.Test.YtdgnhfhaaghoaaaGreatDoorJ43
set_option linter.unusedSimpArgs false
set_option linter.unusedVariables false
namespace Go.Proofs.YtdgnhfhaaghoaaaGreatDoor
open Go.RowKit

/-- While a system and a formula are put into their places: the formula drawn (b2), the store (b3). -/
structure SV (w0 wB : World) (p P Q : Nat) (A : Option Addr) (bs : List Int) (c : Nat) (U T V : Value) (f : List Int) (b2 b3 : Bool) (W : World) : Prop where
  o3 : b3 = true → b2 = true
  k : Kept (fun q => q = p ∨ q = P) w0 W
  cur : b2 = false → Cur W p A bs c 2000
  box0 : b3 = false → W.heap[P]? = some (.cells #[.slice none 0 0, .slice none 0 0] 27)
  box1 : b3 = true → W.heap[P]? = some (.cells #[U, T] 27)
  lbx : W.heap[Q]? = some (.cells #[U, T] 27)
  d1 : DLab wB W U T
  d2 : b2 = true → W.ownsRow wB.heap.size 3 1 V f.length (ints f) ∧ f.length ≤ 300
section
variable {w0 wB W W' : World} {p P Q c : Nat} {A : Option Addr} {bs : List Int} {U T V V' : Value} {f f' : List Int} {b2 b3 : Bool}
theorem SV.start (hC : Cur w0 p A bs c 2000) (h0 : w0.heap[P]? = some (.cells #[.slice none 0 0, .slice none 0 0] 27)) (h1 : w0.heap[Q]? = some (.cells #[U, T] 27)) (hd : DLab wB w0 U T) : SV w0 wB p P Q A bs c U T V f false false w0.drew :=
  { o3 := fun h => (nomatch h), k := (Kept.refl _ _).below' ((Below.refl _ _).drew), cur := fun _ => hC.below ((Below.refl _ _).drew), box0 := fun _ => h0, box1 := fun h => (nomatch h), lbx := h1, d1 := hd.kept (S := fun _ => False) ((Kept.refl _ _).below' ((Below.refl _ _).drew)) (fun q h => h.elim), d2 := fun h => (nomatch h) }
theorem SV.q (h : SV w0 wB p P Q A bs c U T V f false b3 W) : b3 = false := by
  cases b3; rfl; exact absurd (h.o3 rfl) (by simp)
theorem SV.draw (h : SV w0 wB p P Q A bs c U T V f false b3 W) (hP : P ≠ p) (hQ : Q ≠ p) (hpB : p < wB.heap.size) (hk : Kept (fun q => q = p) W W') (ho : W'.ownsRow W.heap.size 3 1 V' f'.length (ints f')) (hf : f'.length ≤ 300) (hB : wB.heap.size ≤ W.heap.size) : SV w0 wB p P Q A bs c U T V' f' true b3 W' := by
  obtain rfl := h.q
  exact { o3 := fun h => (nomatch h), k := h.k.trans (hk.mono fun q hq => Or.inl hq), cur := fun h => (nomatch h), box0 := fun _ => (hk.block P (Array.getElem?_eq_some_iff.1 (h.box0 rfl)).1 hP).trans (h.box0 rfl), box1 := fun h => (nomatch h), lbx := (hk.block Q (Array.getElem?_eq_some_iff.1 h.lbx).1 hQ).trans h.lbx, d1 := h.d1.kept hk (fun q hq => by omega), d2 := fun _ => ⟨owns_mono ho hB, hf⟩ }
theorem SV.store (h : SV w0 wB p P Q A bs c U T V f true false W) (hQ : Q ≠ P) (hPB : P < wB.heap.size) : SV w0 wB p P Q A bs c U T V f true true ((W.setCell ⟨P, 0, none⟩ U).setCell ⟨P, 1, none⟩ T) := by
  obtain ⟨h1, hk⟩ := box_put U T (h.box0 rfl)
  exact { o3 := fun _ => rfl, k := h.k.trans (hk.mono fun q hq => Or.inr hq), cur := fun h => (nomatch h), box0 := fun h => (nomatch h), box1 := fun _ => h1, lbx := (hk.block Q (Array.getElem?_eq_some_iff.1 h.lbx).1 hQ).trans h.lbx, d1 := h.d1.kept hk (fun q hq => by omega), d2 := fun _ => ⟨owns_kept (h.d2 rfl).1 hk (fun q hq e => by have := ((h.d2 rfl).1.lt q hq).1; omega), (h.d2 rfl).2⟩ }
end

set_option maxHeartbeats 4000000 in
theorem drawIsFormula_any (A : Option Addr) (bs : List Int) (c : Nat) (w : World) (hA : Cells w A (u8s bs)) (hrng : ∀ x ∈ bs, 0 ≤ x ∧ x < 256) (hlen : bs.length ≤ 1000000000000) :
    Calls Tryz.prog 71 #[.slice A bs.length c] w fun e w' => ∃ (r : Value) (f : List Int), e = .returned r ∧ w'.ownsRow w.heap.size 3 1 r f.length (ints f) ∧ f.length ≤ 300 ∧ Below w.heap.size w w' := by
  obtain ⟨W0, hW0⟩ : ∃ W0, W0 = w.alloc (.cells #[.slice A bs.length c, .int .i64 0, .int .u64 0] 94) := ⟨_, rfl⟩
  have hb0 := below_new hW0
  have hs0 : W0.heap.size = w.heap.size + 1 := by rw [hW0]; simp
  have hC := Cur.start (c := c) hA hrng hlen
  rw [← hW0] at hC
  have HC := Lib.hid hC
  have HB0 := Lib.hid hb0
  have HW0 := Lib.hid hW0
  clear hC hb0 hW0 hA
  go_enter Tryz.func71, Tryz.ntmps71
  go_wp2_with fail
  rw [← HW0.out]
  (with_reducible refine (wrong11_any w.heap.size A bs c 0 W0 HC.out (by omega)).mono ?_)
  rintro e w1 ⟨r, f, rfl, hr, hf, hC1, hK1⟩
  have HR := Lib.hid hr
  have HK1 := Lib.hid hK1
  clear hr hK1 hC1
  go_wp2_with fail
  go_ret
  exact ⟨r, f, rfl, owns_mono HR.out (by omega), hf, HB0.out.trans (HK1.out.below (B := w.heap.size) (fun q hq => by omega) (by omega))⟩
set_option maxHeartbeats 4000000 in
theorem drawFormulaText_any (A : Option Addr) (bs : List Int) (c : Nat) (w : World) (hA : Cells w A (u8s bs)) (hrng : ∀ x ∈ bs, 0 ≤ x ∧ x < 256) (hlen : bs.length ≤ 1000000000000) :
    Calls Tryz.prog 24 #[.slice A bs.length c] w fun e w' => ∃ (r : Value) (f : List Int), e = .returned r ∧ w'.ownsRow w.heap.size 3 1 r f.length (ints f) ∧ f.length ≤ 300 ∧ Below w.heap.size w w' := by
  have H := Lib.hid (drawIsFormula_any A bs c w hA hrng hlen)
  clear hA
  go_enter Tryz.func24, Tryz.ntmps24
  go_wp2_with fail
  (with_reducible refine H.out.mono ?_)
  rintro e w1 ⟨r, f, rfl, hr, hf, hB⟩
  have HR := Lib.hid hr
  have HB := Lib.hid hB
  clear hr hB
  go_wp2_with fail
  go_ret
  exact ⟨r, f, rfl, HR.out, hf, HB.out⟩

theorem fT_size (f : List Int) : (fT f).size ≤ 400 := by
  by_cases h : isF f = true
  · have : okP f (fT f) = true := by unfold okP; rw [h]; simp
    exact (okP_got this).2.2
  · unfold fT
    rw [if_neg h]
    decide

set_option maxRecDepth 100000 in
set_option maxHeartbeats 4000000 in
theorem drawParseFormula_any (A : Option Addr) (bs : List Int) (c : Nat) (w : World) (hA : Cells w A (u8s bs)) (hrng : ∀ x ∈ bs, 0 ≤ x ∧ x < 256) (hlen : bs.length ≤ 1000000000000) :
    Calls Tryz.prog 30 #[.slice A bs.length c] w fun e w' => ∃ s : ByteArray, e = .returned (.string s) ∧ s.size ≤ 5000 ∧ Below w.heap.size w w' := by
  obtain ⟨W0, hW0⟩ : ∃ W0, W0 = w.alloc (.cells #[.slice A bs.length c, .int .i64 0, .int .u64 0] 94) := ⟨_, rfl⟩
  have hb0 := below_new hW0
  have hs0 : W0.heap.size = w.heap.size + 1 := by rw [hW0]; simp
  have hC := Cur.start (c := c) hA hrng hlen
  rw [← hW0] at hC
  have HC := Lib.hid hC
  have HB0 := Lib.hid hb0
  have HW0 := Lib.hid hW0
  clear hC hb0 hW0 hA
  go_enter Tryz.func30, Tryz.ntmps30
  go_wp2_with fail
  rw [← HW0.out]
  (with_reducible refine (wrong11_any w.heap.size A bs c 0 W0 HC.out (by omega)).mono ?_)
  rintro e w1 ⟨r, f, rfl, hr, hf, hC1, hK1⟩
  obtain ⟨R, cR, rfl, hr⟩ := owns_form hr
  have HR := Lib.hid (Cells.of_owns hr)
  have HK1 := Lib.hid hK1
  have HC1 := Lib.hid hC1
  clear hr hK1 hC1
  go_wp2_with fail
  (with_reducible refine (l11Formula_any R cR f w1 (by omega) HR.out).mono ?_)
  rintro e w2 ⟨rfl, rfl⟩
  go_upto_if 12 with fail
  go_cut [4] from 5 (fun v wx => (∃ s : ByteArray, v = .string s ∧ s.size ≤ 400) ∧ w1 = wx)
  case first =>
    cases hF : isF f
    · go_wp2_with fail
      go_meet
      case rel => exact ⟨⟨_, rfl, by decide⟩, rfl⟩
    · have h0 := isF_end hF
      have hsz := fT_size f
      rw [fT_eq hF] at hsz
      have HT := Lib.hid (l11Text_any R cR f h0.2 w1 HR.out f.length 0 h0.1)
      generalize fText f.length f 0 = x at *
      clear hF h0
      go_wp2_with fail
      (with_reducible refine HT.out.mono ?_)
      rintro e w3 ⟨rfl, rfl⟩
      go_wp2_with fail
      go_meet
      case rel => exact ⟨⟨_, rfl, hsz⟩, by first | rfl | trivial⟩
  case rest =>
    obtain ⟨⟨s, rfl, hs⟩, rfl⟩ := hcut
    go_wp2_with fail
    (with_reducible refine (one_any w.heap.size A bs c (0 + 200) 3 w1 HC1.out (by omega) (by omega)).mono ?_)
    rintro e w4 ⟨b, rfl, hC4, hK4⟩
    have HK4 := Lib.hid (HK1.out.trans hK4)
    have HC4 := Lib.hid hC4
    clear hC4 hK4
    cases b
    · go_wp2_with fail
      go_ret
      exact ⟨s, rfl, by omega, HB0.out.trans (HK4.out.below (B := w.heap.size) (fun q hq => by omega) (by omega))⟩
    · go_wp2_with fail
      (with_reducible refine (spoilt_any w.heap.size A bs c _ s ⟨#[116, 33, 38, 109, 48, 60, 62, 57]⟩ w4 HC4.out (by omega) (by omega) (by decide) (by decide)).mono ?_)
      rintro e w5 ⟨s', rfl, hs', hC5, hK5⟩
      have HK5 := Lib.hid (HK4.out.trans hK5)
      clear hC5 hK5
      go_wp2_with fail
      go_ret
      exact ⟨s', rfl, by omega, HB0.out.trans (HK5.out.below (B := w.heap.size) (fun q hq => by omega) (by omega))⟩

set_option maxRecDepth 100000 in
set_option maxHeartbeats 16000000 in
theorem drawSatisfying_any (A : Option Addr) (bs : List Int) (c : Nat) (w : World) (hA : Cells w A (u8s bs)) (hrng : ∀ x ∈ bs, 0 ≤ x ∧ x < 256) (hlen : bs.length ≤ 1000000000000) :
    Calls Tryz.prog 33 #[.slice A bs.length c] w fun e w' => ∃ (u t r : Value) (f : List Int), e = .returned (.tuple #[.agg #[u, t], r]) ∧ DLab w w' u t ∧ w'.ownsRow w.heap.size 3 1 r f.length (ints f) ∧ f.length ≤ 300 ∧ Below w.heap.size w w' := by
  obtain ⟨W0, hW0⟩ : ∃ W0, W0 = (w.alloc (.cells #[.slice none 0 0, .slice none 0 0] 27)).alloc (.cells #[.slice A bs.length c, .int .i64 0, .int .u64 0] 94) := ⟨_, rfl⟩
  have hb0 : Below w.heap.size w W0 := by rw [hW0]; exact ((Below.refl _ _).alloc (Nat.le_refl _) _).alloc (by simp) _
  have hs0 : W0.heap.size = w.heap.size + 1 + 1 := by rw [hW0]; simp
  have bx0 : W0.heap[w.heap.size]? = some (.cells #[.slice none 0 0, .slice none 0 0] 27) := by
    rw [hW0]
    exact (heap_alloc_old _ _ (by simp)).trans (heap_alloc_new _ _)
  have hC : Cur W0 (w.heap.size + 1) A bs c 0 := by
    have h := Cur.start (c := c) (hA.below (((Below.refl w.heap.size w).alloc (Nat.le_refl _) (.cells #[.slice none 0 0, .slice none 0 0] 27)))) hrng hlen
    rw [World.size_alloc] at h
    rw [hW0]; exact h
  have HC := Lib.hid hC
  have HB0 := Lib.hid hb0
  have HX0 := Lib.hid bx0
  have HW0 := Lib.hid hW0
  clear hC hb0 bx0 hW0 hA
  go_enter Tryz.func33, Tryz.ntmps33
  go_wp2_with fail
  rw [← HW0.out]
  (with_reducible refine (labelled_any (w.heap.size + 1) A bs c 0 W0 HC.out (by omega)).mono ?_)
  rintro e w1 ⟨u, t, rfl, hD, hC1, hK1⟩
  obtain ⟨AU, nU, cU, AT, nT, cT, rfl, rfl⟩ := hD.form
  have hs1 := hK1.size
  have hbl := heap_alloc_new w1 (.cells #[.slice AU nU cU, .slice AT nT cT] 27)
  have hbel := (Below.refl w1.heap.size w1).alloc (Nat.le_refl _) (.cells #[.slice AU nU cU, .slice AT nT cT] 27)
  obtain ⟨w2, hw2⟩ : ∃ w2, w2 = w1.alloc (.cells #[.slice AU nU cU, .slice AT nT cT] 27) := ⟨_, rfl⟩
  have hs2 : w2.heap.size = w1.heap.size + 1 := by rw [hw2]; simp
  rw [← hw2] at hbl hbel
  have HK2 := Lib.hid ((hK1.below' hbel))
  have g0 := (HK2.out.block w.heap.size (by omega) (by omega)).trans HX0.out
  have hd2 : DLab W0 w2 (.slice AU nU cU) (.slice AT nT cT) := hD.kept (S := fun _ => False) (Kept.of_below hbel _) (fun q h => h.elim)
  have HSU := Lib.hid (SV.start (V := .bool false) (f := []) ((hC1.mono (show 0 + 1000 ≤ 2000 by omega)).below hbel) g0 hbl hd2)
  have HW2 := Lib.hid hw2
  clear hD hC1 hK1 hbl hbel g0 hd2 hw2
  go_upto_region 3 with fail
  rw [← HW2.out]
  refine wp_region_inv (by kernel_rfl) (fun L act W => ∃ (v : Value) (f : List Int), act = ⟨#[Value.slice A bs.length c, undef, Value.pointer (some ⟨w.heap.size, 0, none⟩), bsel (L 4) (v) (Value.slice none 0 0), Value.pointer (some ⟨w.heap.size + 1, 0, none⟩), Value.pointer (some ⟨w1.heap.size, 0, none⟩), Value.slice A bs.length c, Value.agg #[Value.slice A bs.length c, Value.int IntKind.i64 0, Value.int IntKind.u64 0], Value.pointer (some ⟨w.heap.size + 1, 0, none⟩), Value.pointer (some ⟨w.heap.size + 1, 0, none⟩), Value.agg #[Value.slice AU nU cU, Value.slice AT nT cT], bsel (L 0) (.agg #[.slice AU nU cU, .slice AT nT cT]) (undef), bsel (L 1) (.pointer (some ⟨w.heap.size + 1, 0, none⟩)) (undef), bsel (L 2) (v) (undef)], []⟩ ∧ (L 4 = true → L 2 = true) ∧ SV w2 W0 (w.heap.size + 1) w.heap.size w1.heap.size A bs c (.slice AU nU cU) (.slice AT nT cT) v f (L 2) (L 3) W) ?h0 ?step ?fin
  case h0 => exact ⟨.bool false, [], rfl, fun h => absurd h Bool.false_ne_true, HSU.out⟩
  case step =>
    intro L act W q oo hJ hL ho hd K3 hK3
    obtain ⟨v, f, rfl, hI0, hF⟩ := hJ
    match q, ho with
    | 0, ho =>
      simp only [List.getElem?_toArray, List.getElem?_cons_zero, List.getElem?_cons_succ, Option.some.injEq] at ho
      subst ho
      simp [Region.binds] at hd
      have s0 := cell_of_row W _ 0 _ _ _ hF.lbx
      have s1 := cell_of_row W _ 1 _ _ _ hF.lbx
      try simp only [hd, bsel_t]
      have HF := Lib.hid hF
      clear hF
      have HQI0 := Lib.hid hI0
      clear hI0
      go_simp
      exact hK3 _ _ ⟨v, f, by first | (simp [upd, bsel]; done) | simp [upd, bsel, hd], by simpa [upd] using HQI0.out, HF.out⟩
    | 1, ho =>
      simp only [List.getElem?_toArray, List.getElem?_cons_zero, List.getElem?_cons_succ, Option.some.injEq] at ho
      subst ho
      simp [Region.binds] at hd
      try simp only [hd, bsel_t]
      have HF := Lib.hid hF
      clear hF
      have HQI0 := Lib.hid hI0
      clear hI0
      go_simp
      exact hK3 _ _ ⟨v, f, by first | (simp [upd, bsel]; done) | simp [upd, bsel, hd], by simpa [upd] using HQI0.out, HF.out⟩
    | 2, ho =>
      simp only [List.getElem?_toArray, List.getElem?_cons_zero, List.getElem?_cons_succ, Option.some.injEq] at ho
      subst ho
      simp [Region.binds] at hd
      have hz0 : L 4 = false := by
        cases e : L 4
        · rfl
        · exact absurd (hI0 e) (by simp [hL])
      rw [hL] at hF
      simp only [hd, bsel_t]
      have HF := Lib.hid hF
      clear hF
      have HQI0 := Lib.hid hI0
      clear hI0
      go_simp
      go_at_call 78
      (with_reducible refine (wrong11_any (w.heap.size + 1) A bs c 2000 W (HF.out.cur rfl) (by omega)).mono ?_)
      rintro e W' ⟨v', f', rfl, ho', hf', -, hk'⟩
      have HF := Lib.hid (HF.out.draw (by omega) (by omega) (by omega) hk' ho' hf' (by have := HF.out.k.size; omega))
      clear ho' hf' hk'
      go_simp
      exact hK3 _ _ ⟨v', f', by simp [upd, bsel, hd, hz0], by simp [upd], by simpa [upd, hd] using HF.out⟩
    | 3, ho =>
      simp only [List.getElem?_toArray, List.getElem?_cons_zero, List.getElem?_cons_succ, Option.some.injEq] at ho
      subst ho
      simp [Region.binds] at hd
      rw [hL] at hF
      have hb0 := hF.box0 rfl
      have s0 := cell_of_row W _ 0 _ _ _ hb0
      have s1 := cell_of_row W _ 1 _ _ _ hb0
      have f0 := frozen_of_row W _ 0 _ _ hb0
      have f1 := frozen_of_row W _ 1 _ _ hb0
      clear hb0
      have d2 : L 2 = true := by simp [hd]
      rw [d2] at hF
      simp only [hd, bsel_t]
      have HF := Lib.hid (hF.store (by omega) (by omega))
      clear hF
      have HQI0 := Lib.hid hI0
      clear hI0
      go_simp
      exact hK3 _ _ ⟨v, f, by simp [upd, bsel, hd], by simpa [upd] using HQI0.out, by simpa [upd, d2] using HF.out⟩
    | 4, ho =>
      simp only [List.getElem?_toArray, List.getElem?_cons_zero, List.getElem?_cons_succ, Option.some.injEq] at ho
      subst ho
      simp [Region.binds] at hd
      try simp only [hd, bsel_t]
      have HF := Lib.hid hF
      clear hF
      have HQI0 := Lib.hid hI0
      clear hI0
      go_simp
      exact hK3 _ _ ⟨v, f, by simp [upd, bsel, hd], by simp [upd, hd], HF.out⟩
    | q + 5, ho => simp at ho
  case fin =>
    intro L act W hJ hfin
    obtain ⟨v, f, rfl, hI0, hF⟩ := hJ
    have l0 : L 0 = true := by
      cases e : L 0
      · have x := hfin 0 _ rfl e
        simp [Region.binds] at x
      · rfl
    have l1 : L 1 = true := by
      cases e : L 1
      · have x := hfin 1 _ rfl e
        simp [Region.binds, l0] at x
      · rfl
    have l2 : L 2 = true := by
      cases e : L 2
      · have x := hfin 2 _ rfl e
        simp [Region.binds, l0, l1] at x
      · rfl
    have l3 : L 3 = true := by
      cases e : L 3
      · have x := hfin 3 _ rfl e
        simp [Region.binds, l0, l1, l2] at x
      · rfl
    have l4 : L 4 = true := by
      cases e : L 4
      · have x := hfin 4 _ rfl e
        simp [Region.binds, l0, l1, l2, l3] at x
      · rfl
    simp only [l0, l1, l2, l3, l4, bsel_t]
    have hend := hF.box1 l3
    have hk := hF.k
    have hd1 := hF.d1
    have hd2 := hF.d2 l2
    obtain ⟨R, cR, rfl, hro⟩ := owns_form hd2.1
    have HE := Lib.hid hend
    have HK9 := Lib.hid hk
    have HR := Lib.hid hro
    clear hend hk hF hfin hI0 hro l0 l1 l2 l3 l4
    go_wp2_with fail
    (try simp only [Exit.inBlock, Exit.then])
    refine bodyPost_ret (results_cell_row2 rfl _ _ w.heap.size _ _ _ _ rfl HE.out Tryz.underlying27 rfl (by kernel_rfl)) rfl ?_
    exact ⟨_, _, _, f, rfl, hd1.low (by omega), owns_mono HR.out (by omega), hd2.2, HB0.out.trans (((HK2.out.mono (fun q hq => Or.inl hq)).trans HK9.out).below (B := w.heap.size) (fun q hq => by omega) (by omega))⟩

end Go.Proofs.YtdgnhfhaaghoaaaGreatDoor
