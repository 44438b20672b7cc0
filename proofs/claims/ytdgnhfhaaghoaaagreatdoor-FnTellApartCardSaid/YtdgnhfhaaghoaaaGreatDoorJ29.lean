/- The program's TellApart, walked. -/
import Derived.Test.YtdgnhfhaaghoaaaGreatDoorProg
import Derived.Test.YtdgnhfhaaghoaaaGreatDoorJ27
import Derived.Test.YtdgnhfhaaghoaaaGreatDoorJ28
import Derived.Test.YtdgnhfhaaghoaaaGreatDoorJ26
set_option linter.unusedSimpArgs false
set_option linter.unusedVariables false
namespace Go.Proofs.YtdgnhfhaaghoaaaGreatDoor
open Go.RowKit

def tellO (l : Lab) (s t : Int) : Option (List Int) := if okST l s t && ((lastL l).getD s.toNat 0 != (lastL l).getD t.toNat 0) then apart l 200 s.toNat t.toNat else none
theorem tellO_bad {l : Lab} {s t : Int} (h : okST l s t = false) : tellO l s t = none := by unfold tellO; rw [h]; rfl
theorem tellO_same {l : Lab} {s t : Int} (h : ((lastL l).getD s.toNat 0 == (lastL l).getD t.toNat 0) = true) : tellO l s t = none := by unfold tellO; simp only [bne, h]; simp
theorem tellO_some {l : Lab} {i j : Nat} (h : okST l i j = true) (h2 : ((lastL l).getD i 0 == (lastL l).getD j 0) = false) : tellO l i j = apart l 200 i j := by
  unfold tellO
  rw [h, Int.toNat_natCast, Int.toNat_natCast, bne, h2]
  rfl
theorem round_differs {l : Lab} {M i j : Nat} (hM : IsRounds l M) (h : ((lastL l).getD i 0 == (lastL l).getD j 0) = false) : (∃ k, roundOf l i j = some k) ∧ leftA l i j < 200 ∨ 40 < l.shows.length := by
  by_cases hn : 40 < l.shows.length
  · exact .inr hn
  · left
    have h1 : (partsL l M).getD i 0 ≠ (partsL l M).getD j 0 := by
      rw [isRounds_last hM]
      simpa using h
    obtain ⟨k, hk, hkM⟩ := round_of_ne M (by have := hM.1; omega) h1
    exact ⟨⟨k, hk⟩, by have := left_le ⟨k, hk, hkM⟩; have := hM.1; omega⟩

theorem TRN.formS {w : World} {B : Nat} {u : Value} {xss : List (List Int)} (h : TRN w B u xss) : ∃ A c, u = .slice A xss.length c := by
  obtain ⟨vs, h1, _⟩ := h
  obtain ⟨A, c, e, _⟩ := owns_form h1
  exact ⟨A, c, e⟩

/-- The facts of the region that makes a teller: the rounds (b2), the teller (b4). -/
structure PF (l : Lab) (w1 : World) (sv tv : Value) (b2 b4 : Bool) (r : Value) (p : Nat) (W : World) : Prop where
  o1 : b4 = true → b2 = true
  z : Below w1.heap.size w1 W
  h2 : b2 = true → ∃ m, IsRounds l m ∧ TRN W w1.heap.size r (rowsTo (partsL l) (m + 1))
  h4 : b4 = true → W.heap[p]? = some (.cells #[sv, tv, r, .bool false] 72) ∧ ∃ V m, IsRounds l m ∧ TRN V w1.heap.size r (rowsTo (partsL l) (m + 1)) ∧ Below w1.heap.size w1 V ∧ V.heap.size ≤ p ∧ Below V.heap.size V W
section
variable {l : Lab} {w1 W W' : World} {sv tv : Value} {b2 b4 : Bool} {r : Value} {p : Nat}
theorem PF.start (r : Value) (p : Nat) : PF l w1 sv tv false false r p w1.drew := { o1 := fun h => (nomatch h), z := (Below.refl _ _).drew, h2 := fun h => (nomatch h), h4 := fun h => (nomatch h) }
theorem PF.called {r' : Value} {m : Nat} (h : PF l w1 sv tv false b4 r p W) (hM : IsRounds l m) (hT : TRN W' W.heap.size r' (rowsTo (partsL l) (m + 1))) (hb : Below W.heap.size W W') : PF l w1 sv tv true b4 r' p W' := by
  have e4 : b4 = false := by cases b4; rfl; exact absurd (h.o1 rfl) (by simp)
  subst e4
  refine { o1 := fun h => (nomatch h), z := h.z.trans (hb.mono h.z.size), h2 := fun _ => ⟨m, hM, ?_⟩, h4 := fun h => (nomatch h) }
  obtain ⟨vs, a, b, c, d⟩ := hT
  exact ⟨vs, owns_mono a h.z.size, fun i v xs x y => owns_mono (b i v xs x y) h.z.size, c, d⟩
theorem PF.boxed (h : PF l w1 sv tv true b4 r p W) : PF l w1 sv tv true true r W.heap.size (W.alloc (.cells #[sv, tv, r, .bool false] 72)) := by
  have hb : Below W.heap.size W (W.alloc (.cells #[sv, tv, r, .bool false] 72)) := (Below.refl _ _).alloc (Nat.le_refl _) _
  exact { o1 := fun _ => rfl, z := h.z.trans (hb.mono h.z.size), h2 := fun _ => by obtain ⟨m, h1, h2⟩ := h.h2 rfl; exact ⟨m, h1, h2.below hb (Nat.le_refl _)⟩, h4 := fun _ => by obtain ⟨m, h1, h2⟩ := h.h2 rfl; exact ⟨heap_alloc_new _ _, W, m, h1, h2, h.z, Nat.le_refl _, hb⟩ }
end

set_option maxRecDepth 100000 in
set_option maxHeartbeats 8000000 in
theorem implTellApart_any (v : Value) (l : Lab) (s t : Int) (w : World) (hs : SmallLab l) (hv : RLab w v l) :
    Calls Tryz.prog 11 #[v, .int .i64 s, .int .i64 t] w fun e w' => ∃ r, e = .returned (.tuple #[r, .bool (tellO l s t).isSome]) ∧ w'.ownsRow w.heap.size 3 1 r ((tellO l s t).getD []).length (ints ((tellO l s t).getD [])) ∧ Below w.heap.size w w' := by
  have HV := Lib.hid (show ∀ W, Below w.heap.size w W → RLab W v l from fun W hb => hv.below hb)
  have HG := Lib.hid (fun W (hb : Below w.heap.size w W) => implIsLabelled_any v l W hs (hv.below hb))
  have HS := Lib.hid (fun W x (hb : Below w.heap.size w W) => isStateL_any v l x W hs (hv.below hb))
  have HR := Lib.hid (fun W (hg : goodLab l = true) (hb : Below w.heap.size w W) => rounds_any v l W (goodF_size hg).1 (goodF_size hg).2 (by have := goodF_many hg; omega) (goodF_steps hg) (goodF_acts hg) (goodF_rows hg) (hv.below hb))
  obtain ⟨sv, tv, rfl, hsv, htv⟩ := hv
  obtain ⟨A1, c1, vs, rfl, _, _, _, _⟩ := id hsv
  obtain ⟨D, d, rfl, _, _⟩ := id htv
  have HSV := Lib.hid (show ∀ W, Below w.heap.size w W → RSS W (.slice A1 l.shows.length c1) l.shows from fun W hb => hsv.below hb)
  have HTV := Lib.hid (show ∀ W, Below w.heap.size w W → RA3 W (.slice D l.steps.length d) l.steps from fun W hb => htv.below hb)
  obtain ⟨W0, hW0⟩ : ∃ W0, W0 = w.alloc (.cells #[.slice A1 l.shows.length c1, .slice D l.steps.length d] 27) := ⟨_, rfl⟩
  have hz0 : Below w.heap.size w W0 := by rw [hW0]; exact (Below.refl _ _).alloc (Nat.le_refl _) _
  have hs0 : W0.heap.size = w.heap.size + 1 := by rw [hW0]; simp
  have bx0 : W0.heap[w.heap.size]? = some (.cells #[.slice A1 l.shows.length c1, .slice D l.steps.length d] 27) := by rw [hW0]; exact heap_alloc_new _ _
  have HX := Lib.hid (show ∀ W, Below W0.heap.size W0 W → W.cell? ⟨w.heap.size, 0, none⟩ = some (.slice A1 l.shows.length c1) ∧ W.cell? ⟨w.heap.size, 1, none⟩ = some (.slice D l.steps.length d) from fun W hW => by
    have := (hW.block _ (by omega)).trans bx0
    exact ⟨cell_of_row _ _ _ _ _ _ this, cell_of_row _ _ _ _ _ _ this⟩)
  have HZ0 := Lib.hid hz0
  have HBAD := Lib.hid (fun (h : okST l s t = false) => tellO_bad h)
  obtain ⟨x0, x1⟩ := HX.out W0 (Below.refl _ _)
  have HGO := Lib.hid (HG.out W0 hz0)
  rw [hW0] at x0 x1
  have HW0 := Lib.hid hW0
  clear hsv htv bx0 hz0 hW0
  cases hg : goodLab l
  · have HN := Lib.hid (HBAD.out (by unfold okST; rw [hg]; rfl))
    rw [hg] at HGO
    clear hg
    go_enter Tryz.func11, Tryz.ntmps11
    go_wp2_with fail
    rw [← HW0.out]
    (with_reducible refine HGO.out.mono ?_)
    rintro e w1 ⟨rfl, hb1⟩
    have HB1 := Lib.hid (HZ0.out.trans (hb1.mono HZ0.out.size))
    clear hb1
    go_wp2_with fail
    go_ret2
    exact ⟨_, by rw [HN.out]; rfl, by rw [HN.out]; exact World.ownsRow_nil _ _ _ _, HB1.out⟩
  · have HGD := Lib.hid hg
    rw [hg] at HGO
    cases hss : stB l s
    · have HN := Lib.hid (HBAD.out (by unfold okST; rw [hg, hss]; rfl))
      clear hg
      go_enter Tryz.func11, Tryz.ntmps11
      go_wp2_with fail
      rw [← HW0.out]
      (with_reducible refine HGO.out.mono ?_)
      rintro e w1 ⟨rfl, hb1⟩
      have HB1 := Lib.hid (HZ0.out.trans (hb1.mono HZ0.out.size))
      obtain ⟨y0, y1⟩ := HX.out w1 hb1
      have HS1 := HS.out w1 s HB1.out
      rw [hss] at HS1
      have HS1 := Lib.hid HS1
      have hs1 := HB1.out.size
      clear hb1 hss
      go_wp2_with fail
      (with_reducible refine HS1.out.mono ?_)
      rintro e w2 ⟨rfl, hb2⟩
      have HB2 := Lib.hid (HB1.out.trans (hb2.mono hs1))
      clear hb2
      go_wp2_with fail
      go_ret2
      exact ⟨_, by rw [HN.out]; rfl, by rw [HN.out]; exact World.ownsRow_nil _ _ _ _, HB2.out⟩
    · cases htt : stB l t
      · have HN := Lib.hid (HBAD.out (by unfold okST; rw [hg, hss, htt]; rfl))
        clear hg
        go_enter Tryz.func11, Tryz.ntmps11
        go_wp2_with fail
        rw [← HW0.out]
        (with_reducible refine HGO.out.mono ?_)
        rintro e w1 ⟨rfl, hb1⟩
        have HB1 := Lib.hid (HZ0.out.trans (hb1.mono HZ0.out.size))
        have HB1' := Lib.hid hb1
        obtain ⟨y0, y1⟩ := HX.out w1 hb1
        have HS1 := HS.out w1 s HB1.out
        rw [hss] at HS1
        have HS1 := Lib.hid HS1
        have hs1 := HB1.out.size
        have hs1' := hb1.size
        clear hb1 hss
        go_wp2_with fail
        (with_reducible refine HS1.out.mono ?_)
        rintro e w2 ⟨rfl, hb2⟩
        have HB2 := Lib.hid (HB1.out.trans (hb2.mono hs1))
        obtain ⟨z0, z1⟩ := HX.out w2 (HB1'.out.trans (hb2.mono hs1'))
        have HS2 := HS.out w2 t HB2.out
        rw [htt] at HS2
        have HS2 := Lib.hid HS2
        have hs2 := HB2.out.size
        clear hb2 y0 y1 htt
        go_wp2_with fail
        (with_reducible refine HS2.out.mono ?_)
        rintro e w3 ⟨rfl, hb3⟩
        have HB3 := Lib.hid (HB2.out.trans (hb3.mono hs2))
        clear hb3
        go_wp2_with fail
        go_ret2
        exact ⟨_, by rw [HN.out]; rfl, by rw [HN.out]; exact World.ownsRow_nil _ _ _ _, HB3.out⟩
      · have HOK := Lib.hid (show okST l s t = true from by unfold okST; rw [hg, hss, htt]; rfl)
        obtain ⟨i, rfl, hi⟩ := stB_true hss
        obtain ⟨j, rfl, hj⟩ := stB_true htt
        clear hg
        go_enter Tryz.func11, Tryz.ntmps11
        go_wp2_with fail
        rw [← HW0.out]
        (with_reducible refine HGO.out.mono ?_)
        rintro e w1 ⟨rfl, hb1⟩
        have HB1 := Lib.hid (HZ0.out.trans (hb1.mono HZ0.out.size))
        have HB1' := Lib.hid hb1
        obtain ⟨y0, y1⟩ := HX.out w1 hb1
        have HS1 := HS.out w1 (i : Int) HB1.out
        rw [hss] at HS1
        have HS1 := Lib.hid HS1
        have hs1 := HB1.out.size
        have hs1' := hb1.size
        clear hb1 hss
        go_wp2_with fail
        (with_reducible refine HS1.out.mono ?_)
        rintro e w2 ⟨rfl, hb2⟩
        have HB2 := Lib.hid (HB1.out.trans (hb2.mono hs1))
        have hb2' := HB1'.out.trans (hb2.mono hs1')
        have HB2' := Lib.hid hb2'
        obtain ⟨z0, z1⟩ := HX.out w2 hb2'
        have HS2 := HS.out w2 (j : Int) HB2.out
        rw [htt] at HS2
        have HS2 := Lib.hid HS2
        have hs2 := HB2.out.size
        have hs2' := hb2'.size
        clear hb2 y0 y1 htt hb2'
        go_wp2_with fail
        (with_reducible refine HS2.out.mono ?_)
        rintro e w3 ⟨rfl, hb3⟩
        have HB3 := Lib.hid (HB2.out.trans (hb3.mono hs2))
        have HB3' := Lib.hid (HB2'.out.trans (hb3.mono hs2'))
        have hs3 := HB3.out.size
        have hs3' := HB3'.out.size
        clear hb3 z0 z1 x0 x1
        go_wp2_with fail
        refine wp_region_inv (by kernel_rfl) (fun L act W => ∃ (AR : Option Addr) (nR cR p : Nat), act = ⟨#[Value.agg #[Value.slice A1 l.shows.length c1, Value.slice D l.steps.length d], Value.int IntKind.i64 (i : Int), Value.int IntKind.i64 (j : Int), Value.pointer (some ⟨w.heap.size, 0, none⟩), undef, undef, Value.slice none 0 0, Value.bool false, bsel (L 5) (.pointer (some ⟨p, 0, none⟩)) (undef), undef, undef, Value.agg #[Value.slice A1 l.shows.length c1, Value.slice D l.steps.length d], Value.bool true, Value.bool false, Value.bool false, Value.agg #[Value.slice A1 l.shows.length c1, Value.slice D l.steps.length d], Value.int IntKind.i64 (i : Int), Value.bool true, Value.bool false, Value.bool false, Value.bool false, Value.agg #[Value.slice A1 l.shows.length c1, Value.slice D l.steps.length d], Value.int IntKind.i64 (j : Int), Value.bool true, Value.bool false, Value.bool false, bsel (L 0) (.agg #[.slice A1 l.shows.length c1, .slice D l.steps.length d]) (undef), bsel (L 1) (.agg #[.slice A1 l.shows.length c1, .slice D l.steps.length d]) (undef), bsel (L 2) (.slice AR nR cR) (undef), bsel (L 3) (.agg #[.slice A1 l.shows.length c1, .slice D l.steps.length d, .slice AR nR cR, .bool false]) (undef), bsel (L 4) (.pointer (some ⟨p, 0, none⟩)) (undef), undef, undef, undef, undef, undef, undef, undef, undef, undef, undef, undef, undef, undef, undef, undef, undef, undef, undef, undef, undef, undef, undef, undef, undef, undef, undef, undef, undef, undef, undef], []⟩ ∧ (L 3 = true → L 2 = true) ∧ (L 5 = true → L 4 = true) ∧ PF l w3 (.slice A1 l.shows.length c1) (.slice D l.steps.length d) (L 2) (L 4) (.slice AR nR cR) p W) ?h0 ?step ?fin
        case h0 => exact ⟨none, 0, 0, 0, rfl, fun h => absurd h Bool.false_ne_true, fun h => absurd h Bool.false_ne_true, PF.start _ _⟩
        case step =>
          intro L act W q oo hJ hL ho hd K3 hK3
          obtain ⟨AR, nR, cR, p, rfl, hI0, hI1, hF⟩ := hJ
          match q, ho with
          | 0, ho =>
            simp only [List.getElem?_toArray, List.getElem?_cons_zero, List.getElem?_cons_succ, Option.some.injEq] at ho
            subst ho
            simp [Region.binds] at hd
            obtain ⟨x0, x1⟩ := HX.out W (HB3'.out.trans (hF.z.mono hs3'))
            try simp only [hd, bsel_t]
            have HF := Lib.hid hF
            clear hF
            go_simp
            exact hK3 _ _ ⟨AR, nR, cR, p, by simp [upd, bsel], by simpa [upd] using hI0, by simpa [upd] using hI1, HF.out⟩
          | 1, ho =>
            simp only [List.getElem?_toArray, List.getElem?_cons_zero, List.getElem?_cons_succ, Option.some.injEq] at ho
            subst ho
            simp [Region.binds] at hd
            obtain ⟨x0, x1⟩ := HX.out W (HB3'.out.trans (hF.z.mono hs3'))
            try simp only [hd, bsel_t]
            have HF := Lib.hid hF
            clear hF
            go_simp
            exact hK3 _ _ ⟨AR, nR, cR, p, by simp [upd, bsel], by simpa [upd] using hI0, by simpa [upd] using hI1, HF.out⟩
          | 2, ho =>
            simp only [List.getElem?_toArray, List.getElem?_cons_zero, List.getElem?_cons_succ, Option.some.injEq] at ho
            subst ho
            simp [Region.binds] at hd
            have hz0 : L 3 = false := by
              cases e : L 3
              · rfl
              · exact absurd (hI0 e) (by simp [hL])
            rw [hL] at hF
            simp only [hd, bsel_t]
            have HF := Lib.hid hF
            clear hF
            go_simp
            go_at_call 55
            (with_reducible refine (HR.out W HGD.out (HB3.out.trans (HF.out.z.mono hs3))).mono ?_)
            rintro e W' ⟨r', m, rfl, hM, hT, hb⟩
            obtain ⟨AR2, cR2, rfl⟩ := hT.formS
            have HF := Lib.hid (HF.out.called hM hT hb)
            clear hM hT hb
            go_simp
            exact hK3 _ _ ⟨AR2, (rowsTo (partsL l) (m + 1)).length, cR2, p, by simp [upd, bsel, hd, hz0], by simp [upd], by simpa [upd] using hI1, by simpa [upd, hd] using HF.out⟩
          | 3, ho =>
            simp only [List.getElem?_toArray, List.getElem?_cons_zero, List.getElem?_cons_succ, Option.some.injEq] at ho
            subst ho
            simp [Region.binds] at hd
            try simp only [hd, bsel_t]
            have HF := Lib.hid hF
            clear hF
            go_simp
            exact hK3 _ _ ⟨AR, nR, cR, p, by simp [upd, bsel, hd], by simp [upd, hd], by simpa [upd] using hI1, HF.out⟩
          | 4, ho =>
            simp only [List.getElem?_toArray, List.getElem?_cons_zero, List.getElem?_cons_succ, Option.some.injEq] at ho
            subst ho
            simp [Region.binds] at hd
            have hz1 : L 5 = false := by
              cases e : L 5
              · rfl
              · exact absurd (hI1 e) (by simp [hL])
            have d2 : L 2 = true := hI0 (by simp [hd])
            rw [d2] at hF
            simp only [hd, bsel_t]
            have HF := Lib.hid hF
            clear hF
            go_simp
            exact hK3 _ _ ⟨AR, nR, cR, W.heap.size, by simp [upd, bsel, hd, hz1, d2], by simpa [upd] using hI0, by simp [upd], by simpa [upd, d2] using HF.out.boxed⟩
          | 5, ho =>
            simp only [List.getElem?_toArray, List.getElem?_cons_zero, List.getElem?_cons_succ, Option.some.injEq] at ho
            subst ho
            simp [Region.binds] at hd
            try simp only [hd, bsel_t]
            have HF := Lib.hid hF
            clear hF
            go_simp
            exact hK3 _ _ ⟨AR, nR, cR, p, by simp [upd, bsel, hd], by simpa [upd] using hI0, by simp [upd, hd], HF.out⟩
          | q + 6, ho => simp at ho
        case fin =>
          intro L act W hJ hfin
          obtain ⟨AR, nR, cR, p, rfl, hI0, hI1, hF⟩ := hJ
          have l0 : L 0 = true := by
            cases e : L 0
            · have x := hfin 0 _ rfl e
              simp [Region.binds] at x
            · rfl
          have l1 : L 1 = true := by
            cases e : L 1
            · have x := hfin 1 _ rfl e
              simp [Region.binds, l0] at x
            · rfl
          have l2 : L 2 = true := by
            cases e : L 2
            · have x := hfin 2 _ rfl e
              simp [Region.binds, l0, l1] at x
            · rfl
          have l3 : L 3 = true := by
            cases e : L 3
            · have x := hfin 3 _ rfl e
              simp [Region.binds, l0, l1, l2] at x
            · rfl
          have l4 : L 4 = true := by
            cases e : L 4
            · have x := hfin 4 _ rfl e
              simp [Region.binds, l0, l1, l2, l3] at x
            · rfl
          have l5 : L 5 = true := by
            cases e : L 5
            · have x := hfin 5 _ rfl e
              simp [Region.binds, l0, l1, l2, l3, l4] at x
            · rfl
          simp only [l0, l1, l2, l3, l4, l5, bsel_t]
          obtain ⟨hbp, V, M, hM, hT, hV1, hVp, hVW⟩ := hF.h4 l4
          clear hF hfin hI0 hI1 l0 l1 l2 l3 l4 l5
          obtain ⟨g, cg, b, d', e, hgM, hoM⟩ := hT.rowAt (i := M) (by rw [rowsTo_len]; omega)
          rw [rowsTo_len] at e
          cases e
          rw [rowsTo_at, isRounds_last hM] at hgM hoM
          have hn40 := (goodF_size HGD.out).2
          have hM40 := hM.1
          have hll : (lastL l).length = l.shows.length := by rw [← isRounds_last hM]; exact parts_len _ _
          rw [hll] at hgM hoM
          have hVs := HB3.out.trans (hV1.mono hs3)
          have HVS := Lib.hid hVs
          have HRV := Lib.hid (hT.rows.rss (by rw [rowsTo_len]; omega) (fun xs hx => by
            obtain ⟨j', hj', rfl⟩ := List.getElem_of_mem hx
            rw [rowsTo_at, parts_len]
            omega))
          have HTL := Lib.hid (show Tlr V p (.slice A1 l.shows.length c1) (.slice D l.steps.length d) (.slice (some ⟨g, 0, none⟩) (M + 1) cR) false W from ⟨hVW, hbp⟩)
          have HGM := Lib.hid (show ∀ U, Below V.heap.size V U → U.cell? ⟨g, M, none⟩ = some (.slice (some ⟨b, 0, none⟩) l.shows.length d') from fun U hU => cell_below hU hgM (lt_of_cell hgM))
          have HOM := Lib.hid (show ∀ U, Below V.heap.size V U → Cells U (some ⟨b, 0, none⟩) (ints (lastL l)) from fun U hU => (Cells.of_owns (n := l.shows.length) (c := d') (by rw [← hll] at hoM ⊢; exact hoM)).below hU)
          have HMM := Lib.hid hM
          have hgm := HGM.out W hVW
          obtain ⟨⟨t0, t1, t2, t3⟩, _⟩ := teller_cells hbp
          have e1 : (((M : Int) + 1) - 1) = (M : Int) := by omega
          have hwV := hVs.size
          have HPV := Lib.hid hVp
          clear hT hV1 hVW hbp hgM hoM hVs hM hVp
          go_wp2_with fail
          go_quiet (fail)
          have HT5 := Lib.hid (HTL.out.below (below_drewN' (Below.refl _ _) nq))
          obtain ⟨W5, hW5⟩ : ∃ W5, W5 = W.drewN nq := ⟨_, rfl⟩
          rw [← hW5] at HT5 ⊢
          clear hW5 t0 t1 t2 t3 hgm
          have hC := HOM.out W5 HT5.out.b
          obtain ⟨b', o', eb, hc⟩ := hC.int (k := i) (by omega)
          cases eb
          have ci := hc i (by omega)
          have cj := hc j (by omega)
          rw [Nat.zero_add] at ci cj
          have q0 : (0 : Int) ≤ (i : Int) := by omega
          have q1 : (i : Int) < (l.shows.length : Int) := by omega
          have q2 : (0 : Int) ≤ (j : Int) := by omega
          have q3 : (j : Int) < (l.shows.length : Int) := by omega
          have HSAME := Lib.hid (fun h => tellO_same (l := l) (s := (i : Int)) (t := (j : Int)) (by rw [Int.toNat_natCast, Int.toNat_natCast]; exact h))
          have HDIFF := Lib.hid (fun h => tellO_some (i := i) (j := j) HOK.out h)
          have HRD := Lib.hid (fun h => round_differs (i := i) (j := j) HMM.out h)
          clear hC hc hll
          generalize (lastL l).getD i 0 = xi at *
          generalize (lastL l).getD j 0 = xj at *
          cases hxx : (xi == xj)
          · have HN := Lib.hid (HDIFF.out hxx)
            obtain ⟨hkk, hleft⟩ : (∃ k, roundOf l i j = some k) ∧ leftA l i j < 200 := by
              rcases HRD.out hxx with h | h
              · exact h
              · omega
            clear HSAME HDIFF HRD
            go_wp2_with fail
            go_quiet (fail)
            have HT6 := Lib.hid (HT5.out.below (below_drewN' (Below.refl _ _) nq))
            obtain ⟨W6, hW6⟩ : ∃ W6, W6 = W5.drewN nq := ⟨_, rfl⟩
            rw [← hW6] at HT6 ⊢
            have HTE := Lib.hid (tell_any l M HMM.out HGD.out V p HPV.out A1 D c1 d g cR (HSV.out V HVS.out) (HTV.out V HVS.out) HRV.out 200 i j hi hj hkk hleft W6 HT6.out)
            have hs6 := (HVS.out.trans (HT6.out.b.mono hwV)).size
            have HB6 := Lib.hid (HVS.out.trans (HT6.out.b.mono hwV))
            clear hW6 ci cj hkk hleft
            go_wp2_with fail
            (with_reducible refine HTE.out.mono ?_)
            rintro e w7 ⟨r, rfl, hk, hr⟩
            have hpw : w.heap.size ≤ p := Nat.le_trans hwV HPV.out
            have HB7 := Lib.hid (HB6.out.trans (hk.below (B := w.heap.size) (fun q hq => by omega) hs6))
            cases ha : apart l 200 i j with
            | none =>
              rw [ha] at hr
              have HA := Lib.hid ha
              obtain ⟨hT7, rfl⟩ := hr
              obtain ⟨⟨t0, t1, t2, t3⟩, _⟩ := teller_cells hT7.c
              clear hk hT7 ha
              go_wp2_with fail
              go_ret2
              exact ⟨_, by rw [HN.out, HA.out]; rfl, by rw [HN.out, HA.out]; exact World.ownsRow_nil _ _ _ _, HB7.out⟩
            | some f0 =>
              rw [ha] at hr
              have HA := Lib.hid ha
              obtain ⟨hT7, ho7⟩ := hr
              obtain ⟨⟨t0, t1, t2, t3⟩, _⟩ := teller_cells hT7.c
              have HO7 := Lib.hid (owns_mono ho7 hs6)
              clear hk hT7 ha ho7
              go_wp2_with fail
              go_ret2
              exact ⟨_, by rw [HN.out, HA.out]; rfl, by rw [HN.out, HA.out]; exact HO7.out, HB7.out⟩
          · have HN := Lib.hid (HSAME.out hxx)
            have HB5 := Lib.hid (HVS.out.trans (HT5.out.b.mono hwV))
            clear HSAME HDIFF HRD
            go_wp2_with fail
            go_quiet (fail)
            have HB6 := Lib.hid (below_drewN' HB5.out nq)
            go_wp2_with fail
            go_ret2
            exact ⟨_, by rw [HN.out]; rfl, by rw [HN.out]; exact World.ownsRow_nil _ _ _ _, HB6.out⟩

end Go.Proofs.YtdgnhfhaaghoaaaGreatDoor
