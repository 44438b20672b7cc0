/- Labelled systems joined: the program's UnionOf walked. -/
import Derived.Test.YtdgnhfhaaghoaaaGreatDoorProg
import Derived.Test.YtdgnhfhaaghoaaaGreatDoorJ37
import Derived.Test.YtdgnhfhaaghoaaaGreatDoorJ47
import Derived.Test.YtdgnhfhaaghoaaaGreatDoorJ5
set_option linter.unusedSimpArgs false
set_option linter.unusedVariables false
namespace Go.Proofs.YtdgnhfhaaghoaaaGreatDoor
open Go.RowKit

theorem cells_new2 (W : World) (x y : Value) (t : TypeId) {n : Nat} (hs : n = W.heap.size) : Cells (W.alloc (.cells #[x, y] t)) (some ⟨n, 0, none⟩) [x, y] := by
  subst hs
  intro j u hj
  refine ⟨W.heap.size, 0, rfl, ?_⟩
  have h := cell_of_row (W.alloc (.cells #[x, y] t)) W.heap.size (0 + j) _ _ _ (heap_alloc_new W _)
  rw [h]
  match j, hj with
  | 0, hj => simpa using hj
  | 1, hj => simpa using hj

set_option maxRecDepth 100000 in
set_option maxHeartbeats 4000000 in
theorem implUnionOf_any (v u : Value) (a b : Lab) (w : World) (ha : SmallLab a) (hsb : SmallLab b) (hv : RLab w v a) (hu : RLab w u b) :
    Calls Tryz.prog 39 #[v, u] w fun e w' => ∃ r, e = .returned (.tuple #[r, .bool (okU a b)]) ∧ OwnLab w' (fun b => w.heap.size ≤ b ∧ b < w'.heap.size) r (unionR a b) ∧ Below w.heap.size w w' := by
  have HGA := Lib.hid (fun W (hb : Below w.heap.size w W) => implIsLabelled_any v a W ha (hv.below hb))
  have HGB := Lib.hid (fun W (hb : Below w.heap.size w W) => implIsLabelled_any u b W hsb (hu.below hb))
  obtain ⟨sv, tv, rfl, hsv, htv⟩ := hv
  obtain ⟨su, tu, rfl, hsu, htu⟩ := hu
  have HSV := Lib.hid (show ∀ W, Below w.heap.size w W → RSS W sv a.shows from fun W hb => hsv.below hb)
  have HTV := Lib.hid (show ∀ W, Below w.heap.size w W → RA3 W tv a.steps from fun W hb => htv.below hb)
  have HSU := Lib.hid (show ∀ W, Below w.heap.size w W → RSS W su b.shows from fun W hb => hsu.below hb)
  have HTU := Lib.hid (show ∀ W, Below w.heap.size w W → RA3 W tu b.steps from fun W hb => htu.below hb)
  obtain ⟨A1, c1, us1, rfl, _, hl1, hC1, hR1⟩ := hsv
  obtain ⟨A2, c2, rfl, _, _⟩ := htv
  obtain ⟨A3, c3, us2, rfl, _, hl2, hC2, hR2⟩ := hsu
  obtain ⟨A4, c4, rfl, _, _⟩ := htu
  have hRR : ∀ (i : Nat) u xs, (us1 ++ us2)[i]? = some u → (a.shows ++ b.shows)[i]? = some xs → RI w u xs := fun i u xs x y => by
    by_cases hi : i < us1.length
    · rw [List.getElem?_append_left hi] at x
      rw [List.getElem?_append_left (by omega)] at y
      exact hR1 i u xs x y
    · rw [List.getElem?_append_right (by omega)] at x
      rw [List.getElem?_append_right (by omega), ← hl1] at y
      exact hR2 _ u xs x y
  have HR := Lib.hid hRR
  have HC1 := Lib.hid hC1
  have HC2 := Lib.hid hC2
  have hone : ∀ u ∈ us1 ++ us2, u.oneCell' = true := fun u hu => by
    obtain ⟨i, hi, e⟩ := List.getElem_of_mem hu
    rw [List.length_append] at hi
    obtain ⟨A, c, rfl, _⟩ := hRR i u _ (by rw [List.getElem?_eq_getElem (by rw [List.length_append]; omega), e]) (List.getElem?_eq_getElem (by rw [List.length_append]; omega))
    rfl
  have HONE := Lib.hid hone
  clear hC1 hC2 hR1 hR2 hRR hone
  obtain ⟨i0, hi, hz0, hz1, hz2⟩ := info_parts info_cs
  obtain ⟨j0, hj, hy0, hy1, hy2⟩ := info_parts info_ca3
  have has := ha.1
  have hat := ha.2.1
  have hbt := hsb.2.1
  have hbs := hsb.1
  have hb3 : ∀ o1 o2 o3, Below w.heap.size w (((w.alloc o1).alloc o2).alloc o3) := fun o1 o2 o3 => (((Below.refl _ _).alloc (Nat.le_refl _) o1).alloc (by simp) o2).alloc (by simp; omega) o3
  go_enter Tryz.func39, Tryz.ntmps39
  go_wp2_with fail
  obtain ⟨W0, hW0⟩ : ∃ W0, W0 = ((w.alloc (.cells #[.slice A1 a.shows.length c1, .slice A2 a.steps.length c2] 27)).alloc (.cells #[.slice A3 b.shows.length c3, .slice A4 b.steps.length c4] 27)).alloc (.cells #[.slice none 0 0, .slice none 0 0] 27) := ⟨_, rfl⟩
  have hz : Below w.heap.size w W0 := by rw [hW0]; exact hb3 _ _ _
  have hsz0 : W0.heap.size = w.heap.size + 1 + 1 + 1 := by rw [hW0]; simp
  have hbx := three_boxes (w := w) (o1 := .cells #[.slice A1 a.shows.length c1, .slice A2 a.steps.length c2] 27) (o2 := .cells #[.slice A3 b.shows.length c3, .slice A4 b.steps.length c4] 27) (o3 := .cells #[.slice none 0 0, .slice none 0 0] 27) (Below.refl _ _)
  rw [← hW0] at hbx ⊢
  obtain ⟨bx0, bx1, bx2, _⟩ := hbx
  have HX := Lib.hid (show ∀ W, Below W0.heap.size W0 W → W.heap[w.heap.size]? = some (.cells #[.slice A1 a.shows.length c1, .slice A2 a.steps.length c2] 27) ∧ W.heap[w.heap.size + 1]? = some (.cells #[.slice A3 b.shows.length c3, .slice A4 b.steps.length c4] 27) ∧ W.heap[w.heap.size + 1 + 1]? = some (.cells #[.slice none 0 0, .slice none 0 0] 27) from fun W hW => ⟨(hW.block _ (by omega)).trans bx0, (hW.block _ (by omega)).trans bx1, (hW.block _ (by omega)).trans bx2⟩)
  have HE := Lib.hid (fun W (hW : Below W0.heap.size W0 W) => show OwnLab ((W.setCell ⟨w.heap.size + 1 + 1, 0, none⟩ (.slice none 0 0)).setCell ⟨w.heap.size + 1 + 1, 1, none⟩ (.slice none 0 0)) (fun b => w.heap.size ≤ b ∧ b < ((W.setCell ⟨w.heap.size + 1 + 1, 0, none⟩ (.slice none 0 0)).setCell ⟨w.heap.size + 1 + 1, 1, none⟩ (.slice none 0 0)).heap.size) (.agg #[.slice none 0 0, .slice none 0 0]) ⟨[], []⟩ ∧ Below w.heap.size w ((W.setCell ⟨w.heap.size + 1 + 1, 0, none⟩ (.slice none 0 0)).setCell ⟨w.heap.size + 1 + 1, 1, none⟩ (.slice none 0 0)) from
    ⟨ownLab_nil _ _, ((hz.trans (hW.mono hz.size)).setCell (p := ⟨w.heap.size + 1 + 1, 0, none⟩) (by simp; omega) _).setCell (p := ⟨w.heap.size + 1 + 1, 1, none⟩) (by simp; omega) _⟩)
  have HEC := Lib.hid (fun W (hW : Below W0.heap.size W0 W) => box_cells (heap_setCell_same _ (w.heap.size + 1 + 1) 1 _ _ (.slice none 0 0) (heap_setCell_same _ (w.heap.size + 1 + 1) 0 _ _ (.slice none 0 0) (HX.out W hW).2.2)))
  clear hW0 bx0 bx1 bx2 hb3
  refine (HGA.out W0 hz).mono ?_
  rintro e w1 ⟨rfl, hb1⟩
  have hB1 : Below W0.heap.size W0 w1 := hb1
  obtain ⟨x0, x1, x2⟩ := HX.out w1 hB1
  obtain ⟨p0, p1, _, _⟩ := box_cells x0
  obtain ⟨p2, p3, _, _⟩ := box_cells x1
  obtain ⟨p4, p5, p6, p7⟩ := box_cells x2
  have HB1 := Lib.hid hB1
  have HE1 := Lib.hid (HE.out w1 hB1)
  obtain ⟨d0, d1, _, _⟩ := HEC.out w1 hB1
  clear x0 x1 x2 hb1 hB1
  cases ga : goodLab a with
  | false =>
    have hok : okU a b = false := by simp [okU, ga]
    have hun : unionR a b = ⟨[], []⟩ := by simp [unionR, hok]
    have HOK := Lib.hid hok
    have HUN := Lib.hid hun
    clear hok hun ga
    go_wp2_with fail
    exact bodyPost_ret (v := .tuple #[.agg #[.slice none 0 0, .slice none 0 0], .bool false]) (by simp [results, Tryz.results39, go_sem, *]) rfl ⟨.agg #[.slice none 0 0, .slice none 0 0], by rw [HOK.out], by rw [HUN.out]; exact HE1.out.1, HE1.out.2⟩
  | true =>
    clear d0 d1 HE1
    go_wp2_with fail
    refine (HGB.out w1 (hz.trans (HB1.out.mono hz.size))).mono ?_
    clear p0 p1 p2 p3 p4 p5 p6 p7
    rintro e w2 ⟨rfl, hb2⟩
    have hB2 : Below W0.heap.size W0 w2 := HB1.out.trans (hb2.mono HB1.out.size)
    obtain ⟨x0, x1, x2⟩ := HX.out w2 hB2
    obtain ⟨p0, p1, _, _⟩ := box_cells x0
    obtain ⟨p2, p3, _, _⟩ := box_cells x1
    obtain ⟨p4, p5, p6, p7⟩ := box_cells x2
    have HB2 := Lib.hid hB2
    have HE1 := Lib.hid (HE.out w2 hB2)
    obtain ⟨d0, d1, _, _⟩ := HEC.out w2 hB2
    clear x0 x1 x2 hb2 hB2
    cases gb : goodLab b with
    | false =>
      have hok : okU a b = false := by simp [okU, gb]
      have hun : unionR a b = ⟨[], []⟩ := by simp [unionR, hok]
      have HOK := Lib.hid hok
      have HUN := Lib.hid hun
      clear hok hun ga gb
      go_wp2_with fail
      exact bodyPost_ret (v := .tuple #[.agg #[.slice none 0 0, .slice none 0 0], .bool false]) (by simp [results, Tryz.results39, go_sem, *]) rfl ⟨.agg #[.slice none 0 0, .slice none 0 0], by rw [HOK.out], by rw [HUN.out]; exact HE1.out.1, HE1.out.2⟩
    | true =>
      by_cases h40 : a.shows.length + b.shows.length ≤ 40
      · have hok : okU a b = true := by simp [okU, ga, gb, h40]
        have hun : unionR a b = uniL a b := by simp [unionR, hok]
        have hgt : decide ((40 : Int) < ((a.shows.length + b.shows.length : Nat) : Int)) = false := by simp; omega
        have HOK := Lib.hid hok
        have HUN := Lib.hid hun
        have ha1 := goodLab_one ga
        have hb1 := goodLab_one gb
        clear hok hun ga gb d0 d1 HE1
        go_wp2_with fail
        refine (cloneT_any _ a.steps w2 (by omega) (HTV.out w2 (hz.trans (HB2.out.mono hz.size)))).mono ?_
        rintro e w3 ⟨u3, rfl, hown3, hb3⟩
        obtain ⟨A9, c9, rfl, hown3⟩ := owns_form hown3
        have hB3 : Below W0.heap.size W0 w3 := HB2.out.trans (hb3.mono HB2.out.size)
        have hO3 := owns_mono hown3 HB2.out.size
        have hsz3 := hB3.size
        clear p0 p1 p2 p3 p4 p5 p6 p7
        have HB3 := Lib.hid hB3
        have HO3 := Lib.hid hO3
        have hal := hB3.alloc hsz3 (.cells #[.slice none 0 0, .slice A9 a.steps.length c9] 27)
        have HP := Lib.hid (heap_alloc_new w3 (.cells #[.slice none 0 0, .slice A9 a.steps.length c9] 27))
        have HAL := Lib.hid hal
        obtain ⟨x0, x1, x2⟩ := HX.out _ hal
        obtain ⟨p0, p1, _, _⟩ := box_cells x0
        obtain ⟨p2, p3, _, _⟩ := box_cells x1
        clear x0 x1 x2 hB3 hO3 hown3 hb3 hal
        go_wp2_with fail
        have hW4 := HAL.out.alloc (Nat.le_trans hsz3 (by simp)) (.cells #[.slice A1 a.shows.length c1, .slice A3 b.shows.length c3] 24)
        have hw4 := hz.trans (hW4.mono hz.size)
        have hsz4 := hW4.size
        refine (concatS_any (.slice (some ⟨w3.heap.size + 1, 0, none⟩) 2 2) [us1, us2] _ (by simp) (by simp; omega) (by simpa using HONE.out) ⟨_, _, [.slice A1 a.shows.length c1, .slice A3 b.shows.length c3], rfl, rfl, cells_new2 _ _ _ _ (by simp), fun i u ys x y => ?_⟩).mono ?_
        · match i, x, y with
          | 0, x, y => simp at x y; subst x; subst y; exact ⟨A1, c1, by rw [hl1], HC1.out.below hw4⟩
          | 1, x, y => simp at x y; subst x; subst y; exact ⟨A3, c3, by rw [hl2], HC2.out.below hw4⟩
        rintro e w5 ⟨rc, rfl, hrc, hb5⟩
        have hfl : [us1, us2].flatten = us1 ++ us2 := by simp
        rw [hfl, List.length_append, hl1, hl2] at hrc
        obtain ⟨gc, cc, rfl, _, hgc⟩ := owns_some hrc (by omega)
        have hP5 : w5.heap[w3.heap.size]? = some (.cells #[.slice none 0 0, .slice A9 a.steps.length c9] 27) := (hb5.block _ (by simp; omega)).trans ((heap_alloc_old _ _ (by simp)).trans HP.out)
        have hz5 : Below W0.heap.size W0 w5 := hW4.trans (hb5.mono hW4.size)
        have hO5 := owns_below (owns_below HO3.out ((((Below.refl w3.heap.size w3).alloc (Nat.le_refl _) (.cells #[.slice none 0 0, .slice A9 a.steps.length c9] 27)).alloc (by simp) (.cells #[.slice A1 a.shows.length c1, .slice A3 b.shows.length c3] 24))) (Nat.le_refl _)) hb5 (Nat.le_refl _)
        have hsz5 := hz5.size
        have hsz35 := hb5.size
        simp only [World.size_alloc] at hsz35
        have HRC := Lib.hid hrc
        have HP5 := Lib.hid hP5
        have HZ5 := Lib.hid hz5
        have HO5 := Lib.hid hO5
        clear hrc hP5 hz5 hO5 hb5 hW4 hw4 hfl
        clear p0 p1 p2 p3
        go_wp2_with fail
        go_loopw [43] (fun i wr => ∃ (k : Nat) (u : Value), k ≤ a.shows.length + b.shows.length ∧ i = .int .i64 k ∧ wr.heap[w3.heap.size]? = some (.cells #[u, .slice A9 a.steps.length c9] 27) ∧ TRows wr w5.heap.size u ((a.shows ++ b.shows).take k) ∧ (∀ q, q < w5.heap.size → q ≠ w3.heap.size → wr.heap[q]? = w5.heap[q]?) ∧ w5.heap.size ≤ wr.heap.size ∧ Below W0.heap.size W0 wr) (fun i _ => a.shows.length + b.shows.length - (intOf i).toNat)
        case atStart => exact ⟨0, _, Nat.zero_le _, rfl, HP5.out, ⟨[], by rw [List.take_zero]; exact World.ownsRow_nil _ _ _ _, fun i v xs h => by simp at h, fun i j v v' b _ h => by simp at h⟩, fun _ _ _ => rfl, Nat.le_refl _, HZ5.out⟩
        case round =>
          obtain ⟨k, u, hk, rfl, hP, hT, hkk, h5, hzr⟩ := hrel
          by_cases hlt : k < a.shows.length + b.shows.length
          · have hrc := owns_but HRC.out hkk HP5.out (by decide)
            obtain ⟨xv, hxv⟩ : ∃ xv, (us1 ++ us2)[k]? = some xv := ⟨_, List.getElem?_eq_getElem (by rw [List.length_append]; omega)⟩
            obtain ⟨xs, hxs⟩ : ∃ xs, (a.shows ++ b.shows)[k]? = some xs := ⟨_, List.getElem?_eq_getElem (by rw [List.length_append]; omega)⟩
            have hwr := hz.trans (hzr.mono hz.size)
            obtain ⟨AX, cX, rfl, hmX, hCX⟩ := (HR.out k _ _ hxv hxs).below hwr
            have p0 := (hrc.cellAt k (by omega)).trans hxv
            have q0 := cell_of_row wr _ 0 _ _ _ hP
            have HKK := Lib.hid hkk
            have HT := Lib.hid hT
            have HZR := Lib.hid hzr
            have HPW := Lib.hid hP
            have HXS := Lib.hid hxs
            have HCX := Lib.hid hCX
            have b0 : (0 : Int) ≤ (k : Int) := by omega
            have b1 : (k : Int) < (a.shows.length : Int) + (b.shows.length : Int) := by omega
            have hxn : xs.length ≤ 16777216 := by
              have hm := List.mem_of_getElem? hxs
              rw [List.mem_append] at hm
              rcases hm with hm | hm
              · exact ha.2.2 _ hm
              · exact hsb.2.2 _ hm
            have hRk := HR.out k _ _ hxv hxs
            have HRX := Lib.hid (show ∀ W, Below w.heap.size w W → Cells W AX (ints xs) from fun W hW => by obtain ⟨_, _, e, _, h⟩ := hRk.below hW; cases e; exact h)
            clear hkk hT hzr hP hxs hCX hxv hrc hRk
            go_wp2_with fail
            have hln : (List.take k (a.shows ++ b.shows)).length = k := by rw [List.length_take, List.length_append]; omega
            have hpz : W0.heap.size ≤ w3.heap.size := by omega
            refine wp_region_inv (by kernel_rfl) (fun L act W => ∃ v47 v48 v49 v50 v51 v52 v53 : Value, act = ⟨#[Value.agg #[Value.slice A1 a.shows.length c1, Value.slice A2 a.steps.length c2], Value.agg #[Value.slice A3 b.shows.length c3, Value.slice A4 b.steps.length c4], Value.pointer (some ⟨w.heap.size, 0, none⟩), Value.pointer (some ⟨w.heap.size + 1, 0, none⟩), Value.pointer (some ⟨w.heap.size + 1 + 1, 0, none⟩), Value.bool false, Value.int IntKind.i64 ↑a.shows.length, Value.pointer (some ⟨w3.heap.size, 0, none⟩), undef, Value.slice AX xs.length cX, undef, undef, Value.pointer (some ⟨w.heap.size, 0, none⟩), Value.slice A1 a.shows.length c1, Value.int IntKind.i64 ↑a.shows.length, Value.agg #[Value.slice A1 a.shows.length c1, Value.slice A2 a.steps.length c2], Value.bool true, Value.bool false, Value.bool false, Value.agg #[Value.slice A3 b.shows.length c3, Value.slice A4 b.steps.length c4], Value.bool true, Value.bool false, Value.bool false, Value.bool false, Value.int IntKind.i64 ↑a.shows.length, Value.pointer (some ⟨w.heap.size + 1, 0, none⟩), Value.slice A3 b.shows.length c3, Value.int IntKind.i64 ↑b.shows.length, Value.int IntKind.i64 ((a.shows.length : Int) + (b.shows.length : Int)), Value.bool (decide ((40 : Int) < (a.shows.length : Int) + (b.shows.length : Int))), Value.bool (decide ((40 : Int) < (a.shows.length : Int) + (b.shows.length : Int))), undef, Value.pointer (some ⟨w.heap.size, 1, none⟩), Value.slice A2 a.steps.length c2, Value.slice A9 a.steps.length c9, Value.agg #[Value.slice none 0 0, Value.slice A9 a.steps.length c9], Value.pointer (some ⟨w.heap.size, 0, none⟩), Value.slice A1 a.shows.length c1, Value.pointer (some ⟨w.heap.size + 1, 0, none⟩), Value.slice A3 b.shows.length c3, Value.slice (some ⟨w3.heap.size + 1, 0, none⟩) 2 2, Value.slice (some ⟨gc, 0, none⟩) (a.shows.length + b.shows.length) cc, Value.int IntKind.i64 ((a.shows.length : Int) + (b.shows.length : Int)), Value.int IntKind.i64 ↑k, Value.bool true, Value.pointer (some ⟨gc, k, none⟩), Value.slice AX xs.length cX,v47, v48, v49, v50, v51, v52, v53, u54, undef, undef, undef, undef, undef, undef, undef, undef, undef, undef, undef, undef, undef, undef, undef, undef, undef, undef, undef, undef, undef, undef, undef, undef, undef], []⟩ ∧ UG W0 wr w5.heap.size w3.heap.size u (.slice A9 a.steps.length c9) (.slice AX xs.length cX) ((a.shows ++ b.shows).take k) xs L v47 v48 v49 v50 v51 v52 v53 W) ?h0 ?step ?fin
            case h0 => exact ⟨_, _, _, _, _, _, _, rfl, { z5 := fun _ _ _ => rfl, sz := Nat.le_refl _, zz := HZR.out.drew, tb := fun _ => HT.out.tb, hp := fun _ => HPW.out, f0 := fun x => absurd x Bool.false_ne_true, f1 := fun x => absurd x Bool.false_ne_true, f2 := fun x => absurd x Bool.false_ne_true, f3 := fun x => absurd x Bool.false_ne_true, f4 := fun x => absurd x Bool.false_ne_true, f5 := fun x => absurd x Bool.false_ne_true, f6 := fun x => absurd x Bool.false_ne_true, f7 := fun x => absurd x Bool.false_ne_true, e4 := fun x => absurd x Bool.false_ne_true, e5 := fun x => absurd x Bool.false_ne_true, e7 := fun x => absurd x Bool.false_ne_true }⟩
            case fin =>
              intro L act W hJ hfin
              obtain ⟨v47, v48, v49, v50, v51, v52, v53, rfl, hf⟩ := hJ
              have l0 : L 0 = true := by
                cases e : L 0
                · have x := hfin 0 _ rfl e
                  simp [Region.binds] at x
                · rfl
              have l1 : L 1 = true := by
                cases e : L 1
                · have x := hfin 1 _ rfl e
                  simp [Region.binds, l0] at x
                · rfl
              have l2 : L 2 = true := by
                cases e : L 2
                · have x := hfin 2 _ rfl e
                  simp [Region.binds, l0, l1] at x
                · rfl
              have l3 : L 3 = true := by
                cases e : L 3
                · have x := hfin 3 _ rfl e
                  simp [Region.binds, l0, l1, l2] at x
                · rfl
              have l4 : L 4 = true := by
                cases e : L 4
                · have x := hfin 4 _ rfl e
                  simp [Region.binds, l0, l1, l2, l3] at x
                · rfl
              have l5 : L 5 = true := by
                cases e : L 5
                · have x := hfin 5 _ rfl e
                  simp [Region.binds, l0, l1, l2, l3, l4] at x
                · rfl
              have l6 : L 6 = true := by
                cases e : L 6
                · have x := hfin 6 _ rfl e
                  simp [Region.binds, l0, l1, l2, l3, l4, l5] at x
                · rfl
              have l7 : L 7 = true := by
                cases e : L 7
                · have x := hfin 7 _ rfl e
                  simp [Region.binds, l0, l1, l2, l3, l4, l5, l6] at x
                · rfl
              obtain ⟨A6, c6, e6, hT6⟩ := hf.f5 l5
              rw [hln] at e6
              subst e6
              have hP6 := hf.f7 l7
              have hz56 := hf.z5
              have hzz := hf.zz
              have hsz6 := hf.sz
              have HF := Lib.hid (show _ ∧ _ ∧ _ ∧ _ from ⟨hP6, hT6, hz56, hzz⟩)
              clear hf hfin l0 l1 l2 l3 l4 l5 l6 l7 hP6 hT6 hz56 hzz
              go_wp2_with fail
              go_roundw
              case rel =>
                obtain ⟨hP6, hT6, hz56, hzz⟩ := HF.out
                refine ⟨k + 1, _, by omega, by go_num, hP6, ?_, fun q x y => (hz56 q x y).trans (HKK.out q x y), by omega, hzz⟩
                rw [List.take_succ_eq_append_getElem (by rw [List.length_append]; omega), (List.getElem?_eq_some_iff.1 HXS.out).2]
                exact hT6
              case measure => simp [intOf]; omega
            case step =>
              intro L act W i o hJ hL ho hd K' hK
              obtain ⟨v47, v48, v49, v50, v51, v52, v53, rfl, hf⟩ := hJ
              match i, ho with
              | 0, ho =>
                simp only [List.getElem?_toArray, List.getElem?_cons_zero, List.getElem?_cons_succ, Option.some.injEq] at ho
                subst ho
                simp [Region.binds] at hd
                go_simp
                exact hK _ _ ⟨_, _, _, _, _, _, _, rfl, hf.s0 hL rfl⟩
              | 1, ho =>
                simp only [List.getElem?_toArray, List.getElem?_cons_zero, List.getElem?_cons_succ, Option.some.injEq] at ho
                subst ho
                simp [Region.binds] at hd
                obtain rfl := hf.f0 (by simp [hd])
                have n7 : L 7 = false := by
                  cases e : L 7
                  · rfl
                  · exact absurd (hf.e5 (hf.e7 e)).1 (by simp [hL])
                have q0 := cell_of_row W _ 0 _ _ _ (hf.hp n7)
                go_simp
                exact hK _ _ ⟨_, _, _, _, _, _, _, rfl, hf.s1 hL rfl⟩
              | 2, ho =>
                simp only [List.getElem?_toArray, List.getElem?_cons_zero, List.getElem?_cons_succ, Option.some.injEq] at ho
                subst ho
                simp [Region.binds] at hd
                go_simp
                exact hK _ _ ⟨_, _, _, _, _, _, _, rfl, hf.s2 hL rfl⟩
              | 3, ho =>
                simp only [List.getElem?_toArray, List.getElem?_cons_zero, List.getElem?_cons_succ, Option.some.injEq] at ho
                subst ho
                simp [Region.binds] at hd
                obtain rfl := hf.f2 (by simp [hd])
                go_simp
                go_at_call 87
                refine (cloneI_any AX cX xs W hxn (HRX.out W (hz.trans (hf.zz.mono hz.size)))).mono ?_
                rintro e w6 ⟨r, rfl, hr, hb6⟩
                obtain ⟨AR, cR, rfl, hr⟩ := owns_form hr
                go_simp
                exact hK _ _ ⟨_, _, _, _, _, _, _, rfl, (hf.below hb6 h5).s3 hL ⟨AR, cR, rfl, owns_mono hr hf.sz⟩⟩
              | 4, ho =>
                simp only [List.getElem?_toArray, List.getElem?_cons_zero, List.getElem?_cons_succ, Option.some.injEq] at ho
                subst ho
                simp [Region.binds] at hd
                obtain ⟨AR, cR, rfl, _⟩ := hf.f3 (by simp [hd])
                go_simp
                exact hK _ _ ⟨_, _, _, _, _, _, _, rfl, (hf.below ((Below.refl _ _).alloc (Nat.le_refl _) _) h5).s4 hL ⟨⟨_, rfl, heap_alloc_new _ _⟩, by simp [hd]⟩⟩
              | 5, ho =>
                simp only [List.getElem?_toArray, List.getElem?_cons_zero, List.getElem?_cons_succ, Option.some.injEq] at ho
                subst ho
                simp [Region.binds] at hd
                have e1 := (hf.f1 (by simp [hd])).symm
                subst e1
                obtain ⟨AR, cR, rfl, hr⟩ := hf.f3 (by simp [hd])
                obtain ⟨g, rfl, hg⟩ := hf.f4 (by simp [hd])
                have hg := hg hL
                have n7 : L 7 = false := by
                  cases e : L 7
                  · rfl
                  · exact absurd (hf.e7 e) (by simp [hL])
                have hq := hf.hp n7
                obtain ⟨ts, a1, a2, a3, a4⟩ := hf.tb hL
                have hWs := hf.sz
                refine step_append_own rfl (.tmp 48) (.tmp 51) 24 rfl w5.heap.size 30 i0 (.slice none 0 0) 1 24 Tryz.underlying24 hi hz0 hz1 hz2 rfl (by decide) _ _ ts rfl a1 ⟨g, 0, none⟩ 1 1 [.slice AR xs.length cR] rfl rfl ?_ ?_ ?_ ?_ ?_ ?_
                · intro j u' hj
                  match j, hj with
                  | 0, hj =>
                    simp at hj
                    subst hj
                    exact cell_of_row W g 0 _ _ _ hg
                · intro u' hu'
                  simp at hu'
                  subst hu'
                  rfl
                · rw [hln]; unfold maxLen; omega
                · rw [hln]; omega
                · omega
                intro v2 w6 hown6 hgrow6 _
                have hT6 := TRows.join (l2 := [xs]) (vs2 := [.slice AR xs.length cR]) a1 a2 a3 a4 rfl (fun i v xs' x y => by
                  match i, x, y with
                  | 0, x, y =>
                    simp at x y
                    subst x
                    subst y
                    exact hr) (fun i j v v' q hij x y => by
                  have := (List.getElem?_eq_some_iff.1 y).1
                  simp at this
                  omega) h5 hown6 hgrow6
                obtain ⟨A6, c6, rfl, _⟩ := owns_form hown6
                have hrow : ∀ q, (Value.ownBlock _ : Option Nat) = some q → w5.heap.size ≤ q ∧ q < W.heap.size := a1.lt
                have hkeep : ∀ q, q < W.heap.size → (u.ownBlock ≠ some q) → w6.heap[q]? = W.heap[q]? := fun q x y => hgrow6.block q x (fun e => y e.symm)
                have hpW := (Array.getElem?_eq_some_iff.1 hq).1
                exact hK _ _ ⟨_, _, _, _, _, _, _, rfl, hf.s5 hL (fun q x y => (hkeep q (by omega) (fun e => by have := (a1.lt q e).1; omega)).trans (hf.z5 q x y)) (Nat.le_trans hWs hgrow6.size) (hf.zz.grown hgrow6 hf.zz.size (fun q e => by have := (a1.lt q e).1; omega)) ((hkeep w3.heap.size (by omega) (fun e => by have := (a1.lt w3.heap.size e).1; omega)).trans hq) (fun v y => owns_grown' y hgrow6 (fun q e => owns_apart' y a1 (by decide) q e)) ⟨by simp [hd], by simp [hd]⟩ ⟨A6, c6, rfl, hT6⟩⟩
              | 6, ho =>
                simp only [List.getElem?_toArray, List.getElem?_cons_zero, List.getElem?_cons_succ, Option.some.injEq] at ho
                subst ho
                simp [Region.binds] at hd
                go_simp
                exact hK _ _ ⟨_, _, _, _, _, _, _, rfl, hf.s6 hL rfl⟩
              | 7, ho =>
                simp only [List.getElem?_toArray, List.getElem?_cons_zero, List.getElem?_cons_succ, Option.some.injEq] at ho
                subst ho
                simp [Region.binds] at hd
                obtain rfl := hf.f6 (by simp [hd])
                obtain ⟨A6, c6, e6, _⟩ := hf.f5 (by simp [hd])
                rw [hln] at e6
                subst e6
                have hq := hf.hp hL
                have s0 := cell_of_row W _ 0 _ _ _ hq
                have s1 := frozen_of_row W _ 0 _ _ hq
                go_simp
                exact hK _ _ ⟨_, _, _, _, _, _, _, rfl, hf.s7 hL (by simp [hd]) hpz⟩
              | k + 8, ho => simp at ho
          · have hke : k = a.shows.length + b.shows.length := by omega
            rw [hke, show a.shows.length + b.shows.length = (a.shows ++ b.shows).length by rw [List.length_append], List.take_length] at hT
            have b2 : ¬ ((k : Int) < (a.shows.length : Int) + (b.shows.length : Int)) := by omega
            have hS1 := owns_but HO5.out hkk HP5.out (by decide)
            have hp : W0.heap.size ≤ w3.heap.size := hsz3
            have hT1 := hT.low hsz5
            obtain ⟨g18, c18, e18⟩ := hT1.form (by rw [List.length_append]; omega)
            rw [List.length_append] at e18
            subst e18
            obtain ⟨x0, x1, x2⟩ := HX.out wr hzr
            obtain ⟨q0, q1, _, _⟩ := box_cells x0
            obtain ⟨q2, q3, _, _⟩ := box_cells x1
            have HT := Lib.hid hT1
            have HS := Lib.hid hS1
            have HZ := Lib.hid hzr
            have HB := Lib.hid hP
            clear hT hT1 hS1 hP hkk hzr x0 x1 x2
            go_wp2_with fail
            go_loopw [58] (fun i wr => ∃ (k : Nat) (t : Value), k ≤ b.steps.length ∧ i = .int .i64 k ∧ wr.heap[w3.heap.size]? = some (.cells #[.slice (some ⟨g18, 0, none⟩) (a.shows.length + b.shows.length) c18, t] 27) ∧ TRows wr W0.heap.size (.slice (some ⟨g18, 0, none⟩) (a.shows.length + b.shows.length) c18) (a.shows ++ b.shows) ∧ wr.ownsRow W0.heap.size 103 3 t (a.steps.length + k) ((a.steps ++ (b.steps.take k).map (shiftS a.shows.length)).flatMap tri) ∧ Below W0.heap.size W0 wr) (fun i _ => b.steps.length - (intOf i).toNat)
            case atStart => exact ⟨0, _, Nat.zero_le _, rfl, HB.out, HT.out, by simpa using HS.out, HZ.out⟩
            case round =>
            obtain ⟨k, t, hk, rfl, hbp, hT, hS, hbel⟩ := hrel
            obtain ⟨At, ct, rfl, hS⟩ := owns_form hS
            obtain ⟨x0, x1, x2⟩ := HX.out wr hbel
            obtain ⟨q0, q1, _, _⟩ := box_cells x0
            obtain ⟨q2, q3, _, _⟩ := box_cells x1
            clear x0 x1 x2
            have q4 := cell_of_row wr _ 1 _ _ _ hbp
            have q5 := cell_of_row wr _ 0 _ _ _ hbp
            have hsz := hbel.size
            have hpl := (Array.getElem?_eq_some_iff.1 hbp).1
            by_cases hlt : k < b.steps.length
            · obtain ⟨bb, o, c', e, h0, h1, h2⟩ := (HTU.out wr (hz.trans (hbel.mono hz.size))).at_ (List.getElem?_eq_getElem hlt)
              cases e
              generalize hs : b.steps[k] = s at *
              have HO := Lib.hid hS
              have HBE := Lib.hid hbel
              have HBP := Lib.hid hbp
              have HT2 := Lib.hid hT
              have HSK := Lib.hid hs
              have b0 : (0 : Int) ≤ (k : Int) := by omega
              have b1 : (k : Int) < (b.steps.length : Int) := by omega
              clear hS hbel hbp hT hs
              have hbl := b.steps.length
              go_wp2_with (at_builtin; refine wpList_append_own _ rfl _ _ 25 rfl W0.heap.size 103 j0 (.agg #[.int .i64 0, .int .i64 0, .int .i64 0]) 3 24 Tryz.underlying25 hj hy0 hy1 hy2 rfl (by decide) _ _ _ rfl ((HO.out.alloc _).alloc _) ⟨wr.heap.size + 1, 0, none⟩ 1 1 (tri (shiftS a.shows.length s)) rfl rfl ?c1 ?c2 ?c3 ?c4 ?c5 ?_)
              case c1 => intro j u hj; match j, hj with | 0, hj | 1, hj | 2, hj => (simp [tri, shiftS] at hj; subst hj; simp [Addr.add])
              case c2 => intro u hu; simp [tri] at hu; rcases hu with rfl | rfl | rfl <;> rfl
              case c3 => unfold maxLen; omega
              case c4 => omega
              case c5 => simp; omega
              intro v2 w2 hown2 hgrow2 _
              obtain ⟨A2', c2', rfl, hown2⟩ := owns_form hown2
              have hal : Below W0.heap.size W0 ((wr.alloc (.cells #[.int .i64 s.1, .int .i64 s.2.1, .int .i64 s.2.2] 103)).alloc (.cells #[.int .i64 (wrap64 (s.1 + a.shows.length)), .int .i64 s.2.1, .int .i64 (wrap64 (s.2.2 + a.shows.length))] 103)) := (HBE.out.alloc hsz _).alloc (by simp; omega) _
              have hp2 : ((wr.alloc (.cells #[.int .i64 s.1, .int .i64 s.2.1, .int .i64 s.2.2] 103)).alloc (.cells #[.int .i64 (wrap64 (s.1 + a.shows.length)), .int .i64 s.2.1, .int .i64 (wrap64 (s.2.2 + a.shows.length))] 103)).heap[w3.heap.size]? = some (.cells #[.slice (some ⟨g18, 0, none⟩) (a.shows.length + b.shows.length) c18, .slice At (a.steps.length + k) ct] 27) := (heap_alloc_old _ _ (by simp; omega)).trans ((heap_alloc_old _ _ hpl).trans HBP.out)
              obtain ⟨hT3, hq4⟩ : TRows w2 W0.heap.size (.slice (some ⟨g18, 0, none⟩) (a.shows.length + b.shows.length) c18) (a.shows ++ b.shows) ∧ w2.heap[w3.heap.size]? = some (.cells #[.slice (some ⟨g18, 0, none⟩) (a.shows.length + b.shows.length) c18, .slice At (a.steps.length + k) ct] 27) := by
                have hTa := (HT2.out.below ((Below.refl wr.heap.size wr).alloc (Nat.le_refl _) (.cells #[.int .i64 s.1, .int .i64 s.2.1, .int .i64 s.2.2] 103)) (Nat.le_refl _)).below ((Below.refl _ _).alloc (Nat.le_refl _) (.cells #[.int .i64 (wrap64 (s.1 + a.shows.length)), .int .i64 s.2.1, .int .i64 (wrap64 (s.2.2 + a.shows.length))] 103)) (Nat.le_refl _)
                have hown1 := (HO.out.alloc (.cells #[.int .i64 s.1, .int .i64 s.2.1, .int .i64 s.2.2] 103)).alloc (.cells #[.int .i64 (wrap64 (s.1 + a.shows.length)), .int .i64 s.2.1, .int .i64 (wrap64 (s.2.2 + a.shows.length))] 103)
                cases At with
                | none =>
                  exact ⟨hTa.grown_none hgrow2 rfl, (hgrow2.block w3.heap.size (by simp; omega) (by simp [Value.ownBlock])).trans hp2⟩
                | some ad =>
                  obtain ⟨cs, hcs⟩ := owns_cells hown1 rfl
                  have hkk : ∀ k', k' < ((wr.alloc (.cells #[.int .i64 s.1, .int .i64 s.2.1, .int .i64 s.2.2] 103)).alloc (.cells #[.int .i64 (wrap64 (s.1 + a.shows.length)), .int .i64 s.2.1, .int .i64 (wrap64 (s.2.2 + a.shows.length))] 103)).heap.size → k' ≠ ad.block → w2.heap[k']? = _ := fun k' h1 h2 => hgrow2.block k' h1 (fun e => h2 (Option.some.inj e))
                  exact ⟨hTa.but hkk hcs (by decide) (by decide), heap_but hkk hcs hp2 (by decide)⟩
              have hg2 := hal.grown hgrow2 hal.size (fun q hq => (HO.out.lt q hq).1)
              have h3 := heap_setCell_same _ w3.heap.size 1 _ _ (.slice A2' (a.steps.length + k + 1) c2') hq4
              have hT4 := hT3.but (fun k' h1 h2 => heap_setCell_other w2 ⟨w3.heap.size, 1, none⟩ k' (.slice A2' (a.steps.length + k + 1) c2') h2) hq4 (by decide) (by decide)
              have hS4 := owns_but hown2 (fun k' h1 h2 => heap_setCell_other w2 ⟨w3.heap.size, 1, none⟩ k' (.slice A2' (a.steps.length + k + 1) c2') h2) hq4 (by decide)
              have hB4 := hg2.setCell (p := ⟨w3.heap.size, 1, none⟩) hp (.slice A2' (a.steps.length + k + 1) c2')
              have hR := Lib.hid (show _ ∧ _ ∧ _ ∧ _ from ⟨h3, hT4, hS4, hB4⟩)
              have t0 : w2.cell? ⟨w3.heap.size, 1, none⟩ = some (.slice At (a.steps.length + k) ct) := cell_of_row _ _ _ _ _ _ hq4
              have t1 : w2.frozen? ⟨w3.heap.size, 1, none⟩ = false := frozen_of_row _ _ _ _ _ hq4
              clear hal hp2 hT3 hq4 hg2 h3 hT4 hS4 hB4 hown2 hgrow2
              go_wp2_with fail
              go_roundw
              case rel => 
                obtain ⟨h3, hT4, hS4, hB4⟩ := hR.out
                refine ⟨k + 1, _, by omega, by go_num, h3, hT4, ?_, hB4⟩
                rw [List.take_succ_eq_append_getElem hlt, HSK.out, List.map_append, ← List.append_assoc, List.flatMap_append]
                have e0 : W0.heap.size = w.heap.size + 3 := by omega
                simpa [Nat.add_assoc, e0] using hS4
              case measure => simp [intOf]; omega
            · obtain rfl : k = b.steps.length := by omega
              rw [List.take_length] at hS
              have hx := (HX.out wr hbel).2.2
              have r0 : wr.cell? ⟨w.heap.size + 1 + 1, 0, none⟩ = some (.slice none 0 0) := cell_of_row _ _ _ _ _ _ hx
              have r1 : wr.cell? ⟨w.heap.size + 1 + 1, 1, none⟩ = some (.slice none 0 0) := cell_of_row _ _ _ _ _ _ hx
              have r2 : wr.frozen? ⟨w.heap.size + 1 + 1, 0, none⟩ = false := frozen_of_row _ _ _ _ _ hx
              have r3 : wr.frozen? ⟨w.heap.size + 1 + 1, 1, none⟩ = false := frozen_of_row _ _ _ _ _ hx
              have HO := Lib.hid hS
              have HBE := Lib.hid hbel
              have HBP := Lib.hid hbp
              have HT2 := Lib.hid hT
              clear hS hbel hbp hT
              go_wp2_with fail
              have g1 := heap_setCell_same wr (w.heap.size + 1 + 1) 0 _ _ (.slice (some ⟨g18, 0, none⟩) (a.shows.length + b.shows.length) c18) (HX.out wr HBE.out).2.2
              have g2 := heap_setCell_same _ (w.heap.size + 1 + 1) 1 _ _ (.slice At (a.steps.length + b.steps.length) ct) g1
              have hkk : ∀ k', k' < wr.heap.size → k' ≠ w.heap.size + 1 + 1 → ((wr.setCell ⟨w.heap.size + 1 + 1, 0, none⟩ (.slice (some ⟨g18, 0, none⟩) (a.shows.length + b.shows.length) c18)).setCell ⟨w.heap.size + 1 + 1, 1, none⟩ (.slice At (a.steps.length + b.steps.length) ct)).heap[k']? = wr.heap[k']? := fun k' _ h2 => by rw [heap_setCell_other _ _ _ _ h2, heap_setCell_other _ _ _ _ h2]
              have hT5 := (HT2.out.but hkk (HX.out wr HBE.out).2.2 (by decide) (by decide)).low hz.size
              have hS5 := owns_mono (owns_but HO.out hkk (HX.out wr HBE.out).2.2 (by decide)) hz.size
              have hB5 := ((hz.trans (HBE.out.mono hz.size)).setCell (p := ⟨w.heap.size + 1 + 1, 0, none⟩) (by simp; omega) (.slice (some ⟨g18, 0, none⟩) (a.shows.length + b.shows.length) c18)).setCell (p := ⟨w.heap.size + 1 + 1, 1, none⟩) (by simp; omega) (.slice At (a.steps.length + b.steps.length) ct)
              have d0 := cell_of_row _ _ 0 _ _ _ g2
              have d1 := cell_of_row _ _ 1 _ _ _ g2
              have hF := Lib.hid (show _ ∧ _ from ⟨hT5.lab (ss := a.steps ++ b.steps.map (shiftS a.shows.length)) (by simpa using hS5), hB5⟩)
              clear hT5 hS5 hB5 g1 g2 hkk
              exact bodyPost_ret (v := .tuple #[.agg #[.slice (some ⟨g18, 0, none⟩) (a.shows.length + b.shows.length) c18, .slice At (a.steps.length + b.steps.length) ct], .bool true]) (by simp [results, Tryz.results39, go_sem, *]) rfl ⟨.agg #[.slice (some ⟨g18, 0, none⟩) (a.shows.length + b.shows.length) c18, .slice At (a.steps.length + b.steps.length) ct], by rw [HOK.out], by rw [HUN.out]; exact hF.out.1, hF.out.2⟩
      · have hok : okU a b = false := by simp [okU, h40]
        have hun : unionR a b = ⟨[], []⟩ := by simp [unionR, hok]
        have HOK := Lib.hid hok
        have HUN := Lib.hid hun
        clear hok hun ga gb
        go_wp2_with fail
        exact bodyPost_ret (v := .tuple #[.agg #[.slice none 0 0, .slice none 0 0], .bool false]) (by simp [results, Tryz.results39, go_sem, *]) rfl ⟨.agg #[.slice none 0 0, .slice none 0 0], by rw [HOK.out], by rw [HUN.out]; exact HE1.out.1, HE1.out.2⟩

end Go.Proofs.YtdgnhfhaaghoaaaGreatDoor
