/- Labelled systems joined: the reference walked. -/
import Derived.Test.YtdgnhfhaaghoaaaGreatDoorProg
import Derived.Test.YtdgnhfhaaghoaaaGreatDoorJ4
import Derived.Test.YtdgnhfhaaghoaaaGreatDoorJ0
import Derived.Deep.RegionHeld3
import Derived.Deep.RegionLaw
import Derived.Test.YtdgnhfhaaghoaaaGreatDoorJ5
set_option linter.unusedSimpArgs false
set_option linter.unusedVariables false
namespace Go.Proofs.YtdgnhfhaaghoaaaGreatDoor
open Go.RowKit

theorem TRows.form {w : World} {B : Nat} {u : Value} {l : List (List Int)} (h : TRows w B u l) (hn : 1 ≤ l.length) : ∃ g c, u = .slice (some ⟨g, 0, none⟩) l.length c := by
  obtain ⟨vs, a, _⟩ := h
  obtain ⟨g, c, e, _⟩ := owns_some a hn
  exact ⟨g, c, e⟩
theorem TRows.grown_none {w w' : World} {B : Nat} {u : Value} {l : List (List Int)} {row : Option Nat} (h : TRows w B u l) (hg : w.grownBy w' row) (hr : row = none) : TRows w' B u l := by
  subst hr
  obtain ⟨vs, a, b, c⟩ := h
  exact ⟨vs, owns_grown' a hg (fun _ _ e => by cases e), fun i v xs x y => owns_grown' (b i v xs x y) hg (fun _ _ e => by cases e), c⟩
theorem TRows.low {w : World} {B B' : Nat} {u : Value} {l : List (List Int)} (h : TRows w B u l) (hB : B' ≤ B) : TRows w B' u l := by
  obtain ⟨vs, a, b, c⟩ := h
  exact ⟨vs, owns_mono a hB, fun i v xs x y => owns_mono (b i v xs x y) hB, c⟩

theorem step_append_none {P : Program} {ops : Array Oper} {o : Oper} {a : Act} {w : World} {K : Act → World → Prop} {Q : Exit → Act → World → Prop} {E : Prop} (hgd : o.guard = none) (s x : Operand) (t : TypeId)
    (ho : o.op = .call { callee := .builtin .append, args := #[s, x], argTypes := #[t, t] })
    (base : Nat) (e : TypeId) (i : TypeInfo) (size : Nat) (ht : P.underlying t = some (.slice e)) (hi : P.info? e = some i)
    (v : Value) (n c : Nat) (xs : List Value) (hs : a.eval s = v) (hown : w.ownsRow base e size v n xs) (hx : a.eval x = .slice none 0 c)
    (h : K (a.put o.dst v) w) : if Region.wanted o (yielded ops a.tmps) = true then Oper.wp P o a w K Q else E := by
  rw [if_pos (by simp [Region.wanted, hgd])]
  have hrun := run_append_none_cap (P := P) (w := w) base t o.type e i size ht hi v n c xs hown
  unfold Oper.wp
  simp [execOp, ho, resolve, invoke, builtin, hs, hx, hrun, Result.andThen]
  exact h

set_option maxRecDepth 100000 in
set_option maxHeartbeats 8000000 in
theorem l11UnionT_any (v u : Value) (a b : Lab) (w : World) (ha : SmallLab a) (hsb : SmallLab b) (ha1 : 1 ≤ a.shows.length) (hb0 : 1 ≤ b.shows.length) (hn40 : a.shows.length + b.shows.length ≤ 40) (hv : RLab w v a) (hu : RLab w u b) :
    Calls Tryz.prog 95 #[v, u] w fun e w' => ∃ u' t', e = .returned (.agg #[u', t']) ∧ TRows w' w.heap.size u' (uniL a b).shows ∧ w'.ownsRow w.heap.size 103 3 t' (uniL a b).steps.length ((uniL a b).steps.flatMap tri) ∧ Below w.heap.size w w' := by
  obtain ⟨i0, hi, hz0, hz1, hz2⟩ := info_parts info_cs
  obtain ⟨j0, hj, hy0, hy1, hy2⟩ := info_parts info_ca3
  obtain ⟨sv, tv, rfl, hsv, htv⟩ := hv
  obtain ⟨su, tu, rfl, hsu, htu⟩ := hu
  have hb3 : ∀ o1 o2 o3, Below w.heap.size w (((w.alloc o1).alloc o2).alloc o3) := fun o1 o2 o3 => (((Below.refl _ _).alloc (Nat.le_refl _) o1).alloc (by simp) o2).alloc (by simp; omega) o3
  have HSV := Lib.hid (show ∀ W, Below w.heap.size w W → RSS W sv a.shows from fun W hb => hsv.below hb)
  have HTV := Lib.hid (show ∀ W, Below w.heap.size w W → RA3 W tv a.steps from fun W hb => htv.below hb)
  have HSU := Lib.hid (show ∀ W, Below w.heap.size w W → RSS W su b.shows from fun W hb => hsu.below hb)
  have HTU := Lib.hid (show ∀ W, Below w.heap.size w W → RA3 W tu b.steps from fun W hb => htu.below hb)
  obtain ⟨A1, c1, vs1, rfl, _, _, _, _⟩ := hsv
  obtain ⟨A2, c2, rfl, _, _⟩ := htv
  obtain ⟨A3, c3, vs3, rfl, _, _, _, _⟩ := hsu
  obtain ⟨A4, c4, rfl, _, _⟩ := htu
  have has := ha.1
  have hbs := hsb.1
  have hat := ha.2.1
  have hbt := hsb.2.1
  go_enter Tryz.func95, Tryz.ntmps95
  go_wp2_with fail
  obtain ⟨W0, hW0⟩ : ∃ W0, W0 = ((w.alloc (.cells #[.slice A1 a.shows.length c1, .slice A2 a.steps.length c2] 27)).alloc (.cells #[.slice A3 b.shows.length c3, .slice A4 b.steps.length c4] 27)).alloc (.cells #[.slice none 0 0, .slice none 0 0] 27) := ⟨_, rfl⟩
  have hz : Below w.heap.size w W0 := by rw [hW0]; exact hb3 _ _ _
  have hsz0 : W0.heap.size = w.heap.size + 1 + 1 + 1 := by rw [hW0]; simp
  have hbx := three_boxes (w := w) (o1 := .cells #[.slice A1 a.shows.length c1, .slice A2 a.steps.length c2] 27) (o2 := .cells #[.slice A3 b.shows.length c3, .slice A4 b.steps.length c4] 27) (o3 := .cells #[.slice none 0 0, .slice none 0 0] 27) (Below.refl _ _)
  rw [← hW0] at hbx ⊢
  obtain ⟨bx0, bx1, bx2, _⟩ := hbx
  have p0 : W0.cell? ⟨w.heap.size, 0, none⟩ = some (.slice A1 a.shows.length c1) := cell_of_row _ _ _ _ _ _ bx0
  have p1 : W0.cell? ⟨w.heap.size, 1, none⟩ = some (.slice A2 a.steps.length c2) := cell_of_row _ _ _ _ _ _ bx0
  have p2 : W0.cell? ⟨w.heap.size + 1, 0, none⟩ = some (.slice A3 b.shows.length c3) := cell_of_row _ _ _ _ _ _ bx1
  have HP := Lib.hid (show ∀ W, Below W0.heap.size W0 W → W.cell? ⟨w.heap.size, 0, none⟩ = some (.slice A1 a.shows.length c1) ∧ W.cell? ⟨w.heap.size, 1, none⟩ = some (.slice A2 a.steps.length c2) ∧ W.cell? ⟨w.heap.size + 1, 0, none⟩ = some (.slice A3 b.shows.length c3) from fun W hW => ⟨cell_below hW p0 (lt_of_cell p0), cell_below hW p1 (lt_of_cell p1), cell_below hW p2 (lt_of_cell p2)⟩)
  have HBX1 := Lib.hid (show ∀ W, Below W0.heap.size W0 W → W.heap[w.heap.size + 1]? = some (.cells #[.slice A3 b.shows.length c3, .slice A4 b.steps.length c4] 27) from fun W hW => (hW.block _ (by omega)).trans bx1)
  have HBX2 := Lib.hid (show ∀ W, Below W0.heap.size W0 W → W.heap[w.heap.size + 1 + 1]? = some (.cells #[.slice none 0 0, .slice none 0 0] 27) from fun W hW => (hW.block _ (by omega)).trans bx2)
  clear hW0 bx0 bx1 bx2 hb3 p0 p1 p2
  refine wp_region_inv (by kernel_rfl) (fun L act W => ∃ v6 v12 v13 v14 v15 v16 v17 v18 v19 v20 v21 v22 v23 : Value, act = ⟨#[.agg #[.slice A1 a.shows.length c1, .slice A2 a.steps.length c2], .agg #[.slice A3 b.shows.length c3, .slice A4 b.steps.length c4], .pointer (some ⟨w.heap.size, 0, none⟩), .pointer (some ⟨w.heap.size + 1, 0, none⟩), .pointer (some ⟨w.heap.size + 1 + 1, 0, none⟩), .int .i64 a.shows.length, v6, undef, undef, .pointer (some ⟨w.heap.size, 0, none⟩), .slice A1 a.shows.length c1, .int .i64 a.shows.length, v12, v13, v14, v15, v16, v17, v18, v19, v20, v21, v22, v23, undef, undef, undef, undef, undef, undef, undef, undef, undef, undef, undef, undef, undef, undef, undef, undef, undef, undef, undef, undef, undef, undef, undef, undef, undef, undef, undef, undef, undef], []⟩ ∧ UF W0 w.heap.size (.slice A1 a.shows.length c1) (.slice A2 a.steps.length c2) (.slice A3 b.shows.length c3) a b L v6 v12 v13 v14 v15 v16 v17 v18 v19 v20 v21 v22 v23 W) ?h0 ?step ?fin
  case h0 => exact ⟨_, _, _, _, _, _, _, _, _, _, _, _, _, rfl, { z := below_drewN' (Below.refl _ _) 1, f0 := fun x => absurd x Bool.false_ne_true, f1 := fun x => absurd x Bool.false_ne_true, f2 := fun x => absurd x Bool.false_ne_true, f3 := fun x => absurd x Bool.false_ne_true, f4 := fun x => absurd x Bool.false_ne_true, f5 := fun x => absurd x Bool.false_ne_true, f6 := fun x => absurd x Bool.false_ne_true, f7 := fun x => absurd x Bool.false_ne_true, f8 := fun x => absurd x Bool.false_ne_true, f9 := fun x => absurd x Bool.false_ne_true, f10 := fun x => absurd x Bool.false_ne_true, f11 := fun x => absurd x Bool.false_ne_true, f12 := fun x => absurd x Bool.false_ne_true, f13 := fun x => absurd x Bool.false_ne_true, e5 := fun x => absurd x Bool.false_ne_true, e6 := fun x => absurd x Bool.false_ne_true, e11 := fun x => absurd x Bool.false_ne_true, e13 := fun x => absurd x Bool.false_ne_true }⟩
  case fin =>
    intro L act W hJ hfin
    obtain ⟨v6, v12, v13, v14, v15, v16, v17, v18, v19, v20, v21, v22, v23, rfl, hf⟩ := hJ
    have l0 : L 0 = true := by
      cases e : L 0
      · have x := hfin 0 _ rfl e
        simp [Region.binds] at x
      · rfl
    have l1 : L 1 = true := by
      cases e : L 1
      · have x := hfin 1 _ rfl e
        simp [Region.binds, l0] at x
      · rfl
    have l2 : L 2 = true := by
      cases e : L 2
      · have x := hfin 2 _ rfl e
        simp [Region.binds, l0, l1] at x
      · rfl
    have l3 : L 3 = true := by
      cases e : L 3
      · have x := hfin 3 _ rfl e
        simp [Region.binds, l0, l1, l2] at x
      · rfl
    have l4 : L 4 = true := by
      cases e : L 4
      · have x := hfin 4 _ rfl e
        simp [Region.binds, l0, l1, l2, l3] at x
      · rfl
    have l5 : L 5 = true := by
      cases e : L 5
      · have x := hfin 5 _ rfl e
        simp [Region.binds, l0, l1, l2, l3, l4] at x
      · rfl
    have l6 : L 6 = true := by
      cases e : L 6
      · have x := hfin 6 _ rfl e
        simp [Region.binds, l0, l1, l2, l3, l4, l5] at x
      · rfl
    have l7 : L 7 = true := by
      cases e : L 7
      · have x := hfin 7 _ rfl e
        simp [Region.binds, l0, l1, l2, l3, l4, l5, l6] at x
      · rfl
    have l8 : L 8 = true := by
      cases e : L 8
      · have x := hfin 8 _ rfl e
        simp [Region.binds, l0, l1, l2, l3, l4, l5, l6, l7] at x
      · rfl
    have l9 : L 9 = true := by
      cases e : L 9
      · have x := hfin 9 _ rfl e
        simp [Region.binds, l0, l1, l2, l3, l4, l5, l6, l7, l8] at x
      · rfl
    have l10 : L 10 = true := by
      cases e : L 10
      · have x := hfin 10 _ rfl e
        simp [Region.binds, l0, l1, l2, l3, l4, l5, l6, l7, l8, l9] at x
      · rfl
    have l11 : L 11 = true := by
      cases e : L 11
      · have x := hfin 11 _ rfl e
        simp [Region.binds, l0, l1, l2, l3, l4, l5, l6, l7, l8, l9, l10] at x
      · rfl
    have l12 : L 12 = true := by
      cases e : L 12
      · have x := hfin 12 _ rfl e
        simp [Region.binds, l0, l1, l2, l3, l4, l5, l6, l7, l8, l9, l10, l11] at x
      · rfl
    have l13 : L 13 = true := by
      cases e : L 13
      · have x := hfin 13 _ rfl e
        simp [Region.binds, l0, l1, l2, l3, l4, l5, l6, l7, l8, l9, l10, l11, l12] at x
      · rfl
    obtain ⟨p, rfl, hp, hbp⟩ := hf.f13 l13
    have hT := hf.f6 l6
    have hS := hf.f10 l10
    have hzW := hf.z
    clear hf hfin l0 l1 l2 l3 l4 l5 l6 l7 l8 l9 l10 l11 l12 l13
    obtain ⟨g18, c18, e18⟩ := hT.form (by rw [List.length_append]; omega)
    rw [List.length_append] at e18
    subst e18
    obtain ⟨A22, c22, rfl, hS⟩ := owns_form hS
    have HT := Lib.hid hT
    have HS := Lib.hid hS
    have HZ := Lib.hid hzW
    have HB := Lib.hid hbp
    clear hT hS hbp
    go_wp2_with fail
    go_loopw [7] (fun i wr => ∃ (k : Nat) (t : Value), k ≤ b.steps.length ∧ i = .int .i64 k ∧ wr.heap[p]? = some (.cells #[.slice (some ⟨g18, 0, none⟩) (a.shows.length + b.shows.length) c18, t] 27) ∧ TRows wr W0.heap.size (.slice (some ⟨g18, 0, none⟩) (a.shows.length + b.shows.length) c18) (a.shows ++ b.shows) ∧ wr.ownsRow W0.heap.size 103 3 t (a.steps.length + k) ((a.steps ++ (b.steps.take k).map (shiftS a.shows.length)).flatMap tri) ∧ Below W0.heap.size W0 wr) (fun i _ => b.steps.length - (intOf i).toNat)
    case atStart => exact ⟨0, _, Nat.zero_le _, rfl, HB.out, HT.out, by simpa using HS.out, HZ.out⟩
    case round =>
      obtain ⟨k, t, hk, rfl, hbp, hT, hS, hbel⟩ := hrel
      obtain ⟨At, ct, rfl, hS⟩ := owns_form hS
      obtain ⟨q0, q1, q2⟩ := HP.out wr hbel
      have q3 := cell_of_row wr _ 1 _ _ _ (HBX1.out wr hbel)
      have q4 := cell_of_row wr _ 1 _ _ _ hbp
      have q5 := cell_of_row wr _ 0 _ _ _ hbp
      have hsz := hbel.size
      have hpl := (Array.getElem?_eq_some_iff.1 hbp).1
      by_cases hlt : k < b.steps.length
      · obtain ⟨bb, o, c', e, h0, h1, h2⟩ := (HTU.out wr (hz.trans (hbel.mono hz.size))).at_ (List.getElem?_eq_getElem hlt)
        cases e
        generalize hs : b.steps[k] = s at *
        have HO := Lib.hid hS
        have HBE := Lib.hid hbel
        have HBP := Lib.hid hbp
        have HT2 := Lib.hid hT
        have HSK := Lib.hid hs
        have b0 : (0 : Int) ≤ (k : Int) := by omega
        have b1 : (k : Int) < (b.steps.length : Int) := by omega
        clear hS hbel hbp hT hs
        have hbl := b.steps.length
        go_wp2_with (at_builtin; refine wpList_append_own _ rfl _ _ 25 rfl W0.heap.size 103 j0 (.agg #[.int .i64 0, .int .i64 0, .int .i64 0]) 3 24 Tryz.underlying25 hj hy0 hy1 hy2 rfl (by decide) _ _ _ rfl ((HO.out.alloc _).alloc _) ⟨wr.heap.size + 1, 0, none⟩ 1 1 (tri (shiftS a.shows.length s)) rfl rfl ?c1 ?c2 ?c3 ?c4 ?c5 ?_)
        case c1 => intro j u hj; match j, hj with | 0, hj | 1, hj | 2, hj => (simp [tri, shiftS] at hj; subst hj; simp [Addr.add])
        case c2 => intro u hu; simp [tri] at hu; rcases hu with rfl | rfl | rfl <;> rfl
        case c3 => unfold maxLen; omega
        case c4 => omega
        case c5 => simp; omega
        intro v2 w2 hown2 hgrow2 _
        obtain ⟨A2', c2', rfl, hown2⟩ := owns_form hown2
        have hal : Below W0.heap.size W0 ((wr.alloc (.cells #[.int .i64 s.1, .int .i64 s.2.1, .int .i64 s.2.2] 103)).alloc (.cells #[.int .i64 (wrap64 (s.1 + a.shows.length)), .int .i64 s.2.1, .int .i64 (wrap64 (s.2.2 + a.shows.length))] 103)) := (HBE.out.alloc hsz _).alloc (by simp; omega) _
        have hp2 : ((wr.alloc (.cells #[.int .i64 s.1, .int .i64 s.2.1, .int .i64 s.2.2] 103)).alloc (.cells #[.int .i64 (wrap64 (s.1 + a.shows.length)), .int .i64 s.2.1, .int .i64 (wrap64 (s.2.2 + a.shows.length))] 103)).heap[p]? = some (.cells #[.slice (some ⟨g18, 0, none⟩) (a.shows.length + b.shows.length) c18, .slice At (a.steps.length + k) ct] 27) := (heap_alloc_old _ _ (by simp; omega)).trans ((heap_alloc_old _ _ hpl).trans HBP.out)
        obtain ⟨hT3, hq4⟩ : TRows w2 W0.heap.size (.slice (some ⟨g18, 0, none⟩) (a.shows.length + b.shows.length) c18) (a.shows ++ b.shows) ∧ w2.heap[p]? = some (.cells #[.slice (some ⟨g18, 0, none⟩) (a.shows.length + b.shows.length) c18, .slice At (a.steps.length + k) ct] 27) := by
          have hTa := (HT2.out.below ((Below.refl wr.heap.size wr).alloc (Nat.le_refl _) (.cells #[.int .i64 s.1, .int .i64 s.2.1, .int .i64 s.2.2] 103)) (Nat.le_refl _)).below ((Below.refl _ _).alloc (Nat.le_refl _) (.cells #[.int .i64 (wrap64 (s.1 + a.shows.length)), .int .i64 s.2.1, .int .i64 (wrap64 (s.2.2 + a.shows.length))] 103)) (Nat.le_refl _)
          have hown1 := (HO.out.alloc (.cells #[.int .i64 s.1, .int .i64 s.2.1, .int .i64 s.2.2] 103)).alloc (.cells #[.int .i64 (wrap64 (s.1 + a.shows.length)), .int .i64 s.2.1, .int .i64 (wrap64 (s.2.2 + a.shows.length))] 103)
          cases At with
          | none =>
            exact ⟨hTa.grown_none hgrow2 rfl, (hgrow2.block p (by simp; omega) (by simp [Value.ownBlock])).trans hp2⟩
          | some ad =>
            obtain ⟨cs, hcs⟩ := owns_cells hown1 rfl
            have hkk : ∀ k', k' < ((wr.alloc (.cells #[.int .i64 s.1, .int .i64 s.2.1, .int .i64 s.2.2] 103)).alloc (.cells #[.int .i64 (wrap64 (s.1 + a.shows.length)), .int .i64 s.2.1, .int .i64 (wrap64 (s.2.2 + a.shows.length))] 103)).heap.size → k' ≠ ad.block → w2.heap[k']? = _ := fun k' h1 h2 => hgrow2.block k' h1 (fun e => h2 (Option.some.inj e))
            exact ⟨hTa.but hkk hcs (by decide) (by decide), heap_but hkk hcs hp2 (by decide)⟩
        have hg2 := hal.grown hgrow2 hal.size (fun q hq => (HO.out.lt q hq).1)
        have h3 := heap_setCell_same _ p 1 _ _ (.slice A2' (a.steps.length + k + 1) c2') hq4
        have hT4 := hT3.but (fun k' h1 h2 => heap_setCell_other w2 ⟨p, 1, none⟩ k' (.slice A2' (a.steps.length + k + 1) c2') h2) hq4 (by decide) (by decide)
        have hS4 := owns_but hown2 (fun k' h1 h2 => heap_setCell_other w2 ⟨p, 1, none⟩ k' (.slice A2' (a.steps.length + k + 1) c2') h2) hq4 (by decide)
        have hB4 := hg2.setCell (p := ⟨p, 1, none⟩) hp (.slice A2' (a.steps.length + k + 1) c2')
        have hR := Lib.hid (show _ ∧ _ ∧ _ ∧ _ from ⟨h3, hT4, hS4, hB4⟩)
        have t0 : w2.cell? ⟨p, 1, none⟩ = some (.slice At (a.steps.length + k) ct) := cell_of_row _ _ _ _ _ _ hq4
        have t1 : w2.frozen? ⟨p, 1, none⟩ = false := frozen_of_row _ _ _ _ _ hq4
        clear hal hp2 hT3 hq4 hg2 h3 hT4 hS4 hB4 hown2 hgrow2
        go_wp2_with fail
        go_roundw
        case rel => 
          obtain ⟨h3, hT4, hS4, hB4⟩ := hR.out
          refine ⟨k + 1, _, by omega, by go_num, h3, hT4, ?_, hB4⟩
          rw [List.take_succ_eq_append_getElem hlt, HSK.out, List.map_append, ← List.append_assoc, List.flatMap_append]
          have e0 : W0.heap.size = w.heap.size + 3 := by omega
          simpa [Nat.add_assoc, e0] using hS4
        case measure => simp [intOf]; omega
      · obtain rfl : k = b.steps.length := by omega
        rw [List.take_length] at hS
        have hx := HBX2.out wr hbel
        have r0 : wr.cell? ⟨w.heap.size + 1 + 1, 0, none⟩ = some (.slice none 0 0) := cell_of_row _ _ _ _ _ _ hx
        have r1 : wr.cell? ⟨w.heap.size + 1 + 1, 1, none⟩ = some (.slice none 0 0) := cell_of_row _ _ _ _ _ _ hx
        have r2 : wr.frozen? ⟨w.heap.size + 1 + 1, 0, none⟩ = false := frozen_of_row _ _ _ _ _ hx
        have r3 : wr.frozen? ⟨w.heap.size + 1 + 1, 1, none⟩ = false := frozen_of_row _ _ _ _ _ hx
        have HO := Lib.hid hS
        have HBE := Lib.hid hbel
        have HBP := Lib.hid hbp
        have HT2 := Lib.hid hT
        clear hS hbel hbp hT
        go_wp2_with fail
        have g1 := heap_setCell_same wr (w.heap.size + 1 + 1) 0 _ _ (.slice (some ⟨g18, 0, none⟩) (a.shows.length + b.shows.length) c18) (HBX2.out wr HBE.out)
        have g2 := heap_setCell_same _ (w.heap.size + 1 + 1) 1 _ _ (.slice At (a.steps.length + b.steps.length) ct) g1
        have hkk : ∀ k', k' < wr.heap.size → k' ≠ w.heap.size + 1 + 1 → ((wr.setCell ⟨w.heap.size + 1 + 1, 0, none⟩ (.slice (some ⟨g18, 0, none⟩) (a.shows.length + b.shows.length) c18)).setCell ⟨w.heap.size + 1 + 1, 1, none⟩ (.slice At (a.steps.length + b.steps.length) ct)).heap[k']? = wr.heap[k']? := fun k' _ h2 => by rw [heap_setCell_other _ _ _ _ h2, heap_setCell_other _ _ _ _ h2]
        have hT5 := (HT2.out.but hkk (HBX2.out wr HBE.out) (by decide) (by decide)).low hz.size
        have hS5 := owns_mono (owns_but HO.out hkk (HBX2.out wr HBE.out) (by decide)) hz.size
        have hB5 := ((hz.trans (HBE.out.mono hz.size)).setCell (p := ⟨w.heap.size + 1 + 1, 0, none⟩) (by simp; omega) (.slice (some ⟨g18, 0, none⟩) (a.shows.length + b.shows.length) c18)).setCell (p := ⟨w.heap.size + 1 + 1, 1, none⟩) (by simp; omega) (.slice At (a.steps.length + b.steps.length) ct)
        have d0 := cell_of_row _ _ 0 _ _ _ g2
        have d1 := cell_of_row _ _ 1 _ _ _ g2
        have hF := Lib.hid (show _ ∧ _ ∧ _ from ⟨hT5, (show World.ownsRow _ _ _ _ _ (a.steps ++ b.steps.map (shiftS a.shows.length)).length ((a.steps ++ b.steps.map (shiftS a.shows.length)).flatMap tri) from by simpa using hS5), hB5⟩)
        clear hT5 hS5 hB5 g1 g2 hkk
        exact bodyPost_ret (v := .agg #[.slice (some ⟨g18, 0, none⟩) (a.shows.length + b.shows.length) c18, .slice At (a.steps.length + b.steps.length) ct]) (by simp [results, Tryz.results95, go_sem, *]) rfl ⟨_, _, rfl, hF.out.1, hF.out.2.1, hF.out.2.2⟩
  case step =>
    intro L act W i o hJ hL ho hd K' hK
    obtain ⟨v6, v12, v13, v14, v15, v16, v17, v18, v19, v20, v21, v22, v23, rfl, hf⟩ := hJ
    obtain ⟨p0, p1, p2⟩ := HP.out W hf.z
    match i, ho with
    | 0, ho =>
      simp only [List.getElem?_toArray, List.getElem?_cons_zero, List.getElem?_cons_succ, Option.some.injEq] at ho
      subst ho
      simp [Region.binds] at hd
      go_simp
      exact hK _ _ ⟨_, _, _, _, _, _, _, _, _, _, _, _, _, rfl, hf.s0 hL rfl⟩
    | 1, ho =>
      simp only [List.getElem?_toArray, List.getElem?_cons_zero, List.getElem?_cons_succ, Option.some.injEq] at ho
      subst ho
      simp [Region.binds] at hd
      obtain rfl := hf.f0 hd
      go_simp
      exact hK _ _ ⟨_, _, _, _, _, _, _, _, _, _, _, _, _, rfl, hf.s1 hL rfl⟩
    | 2, ho =>
      simp only [List.getElem?_toArray, List.getElem?_cons_zero, List.getElem?_cons_succ, Option.some.injEq] at ho
      subst ho
      simp [Region.binds] at hd
      obtain rfl := hf.f1 hd
      go_simp
      go_at_call 159
      refine (l7Table_any _ a.shows W (HSV.out W (hz.trans (hf.z.mono hz.size))) (by omega) (ha.2.2)).mono ?_
      rintro e w1 ⟨r, rfl, hr, hb1⟩
      obtain ⟨g, k, rfl⟩ := hr.form ha1
      go_simp
      exact hK _ _ ⟨_, _, _, _, _, _, _, _, _, _, _, _, _, rfl, (hf.below hb1).s2 hL ⟨g, k, rfl, hr.low hf.z.size⟩⟩
    | 3, ho =>
      simp only [List.getElem?_toArray, List.getElem?_cons_zero, List.getElem?_cons_succ, Option.some.injEq] at ho
      subst ho
      simp [Region.binds] at hd
      go_simp
      exact hK _ _ ⟨_, _, _, _, _, _, _, _, _, _, _, _, _, rfl, hf.s3 hL rfl⟩
    | 4, ho =>
      simp only [List.getElem?_toArray, List.getElem?_cons_zero, List.getElem?_cons_succ, Option.some.injEq] at ho
      subst ho
      simp [Region.binds] at hd
      obtain rfl := hf.f3 hd
      go_simp
      exact hK _ _ ⟨_, _, _, _, _, _, _, _, _, _, _, _, _, rfl, hf.s4 hL rfl⟩
    | 5, ho =>
      simp only [List.getElem?_toArray, List.getElem?_cons_zero, List.getElem?_cons_succ, Option.some.injEq] at ho
      subst ho
      simp [Region.binds] at hd
      obtain rfl := hf.f4 hd.1
      have n6 : L 6 = false := by
        cases e : L 6
        · rfl
        · exact absurd (hf.e6 e) (by simp [hL])
      obtain ⟨g2, k2, rfl, y2⟩ := hf.f2 hd.2
      go_simp
      go_at_call 159
      refine (l7Table_any _ b.shows W (HSU.out W (hz.trans (hf.z.mono hz.size))) (by omega) (hsb.2.2)).mono ?_
      rintro e w1 ⟨r, rfl, hr, hb1⟩
      obtain ⟨g, k, rfl⟩ := hr.form hb0
      go_simp
      exact hK _ _ ⟨_, _, _, _, _, _, _, _, _, _, _, _, _, rfl, (hf.below hb1).s5 hL ⟨⟨g, k, rfl, Joinable.of (y2 n6) hb1 hr hf.z.size⟩, hd.2⟩⟩
    | 6, ho =>
      simp only [List.getElem?_toArray, List.getElem?_cons_zero, List.getElem?_cons_succ, Option.some.injEq] at ho
      subst ho
      simp [Region.binds] at hd
      obtain ⟨d2, d5⟩ := hd
      obtain ⟨g, k, rfl, y2⟩ := hf.f2 d2
      obtain ⟨g5, k5, rfl, y5⟩ := hf.f5 d5
      obtain ⟨us1, us2, B2, a1, a2, a3, a4, a5, a6, a7, a8⟩ := y5 hL
      obtain ⟨cs, hcs⟩ := owns_cells a1 rfl
      refine step_append_own rfl (.tmp 14) (.tmp 17) 24 rfl W0.heap.size 30 i0 (.slice none 0 0) 1 24 Tryz.underlying24 hi hz0 hz1 hz2 rfl (by decide) _ _ us1 rfl a1 ⟨g5, 0, none⟩ b.shows.length k5 us2 rfl ?_ ?_ ?_ ?_ ?_ ?_ ?_
      · exact a5.1
      · exact a5.cells rfl
      · intro u hu
        obtain ⟨i, hi', e⟩ := List.getElem_of_mem hu
        have hil : i < b.shows.length := by have := a5.1; omega
        obtain ⟨A, c, rfl, _⟩ := owns_form (a6 i u _ (by rw [List.getElem?_eq_getElem hi', e]) (List.getElem?_eq_getElem hil))
        rfl
      · unfold maxLen; omega
      · omega
      · exact hf.z.size
      intro v2 w2 hown2 hgrow2 _
      exact hK _ _ ⟨_, _, _, _, _, _, _, _, _, _, _, _, _, rfl, hf.s6 hL d5 (hf.z.grown hgrow2 hf.z.size (fun q hq => (a1.lt q hq).1)) (fun k h1 h2 => hgrow2.block k h1 (fun e => h2 (Option.some.inj e))) hcs (TRows.join a1 a2 a3 a4 (by have := a5.1; omega) a6 a7 a8 hown2 hgrow2)⟩
    | 7, ho =>
      simp only [List.getElem?_toArray, List.getElem?_cons_zero, List.getElem?_cons_succ, Option.some.injEq] at ho
      subst ho
      simp [Region.binds] at hd
      go_simp
      exact hK _ _ ⟨_, _, _, _, _, _, _, _, _, _, _, _, _, rfl, (hf.below ((Below.refl _ _).alloc (Nat.le_refl _) _)).s7 hL ⟨_, rfl, World.ownsRow_made W #[] 0 hf.z.size (Nat.zero_le _) rfl⟩⟩
    | 8, ho =>
      simp only [List.getElem?_toArray, List.getElem?_cons_zero, List.getElem?_cons_succ, Option.some.injEq] at ho
      subst ho
      simp [Region.binds] at hd
      go_simp
      exact hK _ _ ⟨_, _, _, _, _, _, _, _, _, _, _, _, _, rfl, hf.s8 hL rfl⟩
    | 9, ho =>
      simp only [List.getElem?_toArray, List.getElem?_cons_zero, List.getElem?_cons_succ, Option.some.injEq] at ho
      subst ho
      simp [Region.binds] at hd
      obtain rfl := hf.f8 hd
      go_simp
      exact hK _ _ ⟨_, _, _, _, _, _, _, _, _, _, _, _, _, rfl, hf.s9 hL rfl⟩
    | 10, ho =>
      simp only [List.getElem?_toArray, List.getElem?_cons_zero, List.getElem?_cons_succ, Option.some.injEq] at ho
      subst ho
      simp [Region.binds] at hd
      obtain ⟨g, rfl, y7⟩ := hf.f7 (by simp [hd])
      obtain rfl := hf.f9 (by simp [hd])
      have y7 := y7 hL
      obtain ⟨cs, hcs⟩ := owns_cells y7 rfl
      obtain ⟨A2', c2', e2, _, hA2⟩ := HTV.out W (hz.trans (hf.z.mono hz.size))
      cases e2
      cases A2 with
      | none =>
        have e3 := cells_none hA2
        have e4 : a.steps.length = 0 := by have := tri_len a.steps; rw [e3] at this; simp at this; omega
        refine step_append_none rfl (.tmp 19) (.tmp 21) 25 rfl W0.heap.size 103 j0 3 Tryz.underlying25 hj _ 0 c2 [] rfl y7 (by show Value.slice none a.steps.length c2 = _; rw [e4]) ?_
        exact hK _ _ ⟨_, _, _, _, _, _, _, _, _, _, _, _, _, rfl, hf.s10 hL hf.z (fun _ _ _ => rfl) hcs (by rw [e3, e4]; exact y7)⟩
      | some ad =>
        refine step_append_own rfl (.tmp 19) (.tmp 21) 25 rfl W0.heap.size 103 j0 (.agg #[.int .i64 0, .int .i64 0, .int .i64 0]) 3 24 Tryz.underlying25 hj hy0 hy1 hy2 rfl (by decide) _ 0 [] rfl y7 ad a.steps.length c2 (a.steps.flatMap tri) rfl (tri_len _) (cells_add hA2) (tri_one _) ?_ ?_ hf.z.size ?_
        · unfold maxLen; omega
        · omega
        intro v2 w2 hown2 hgrow2 _
        rw [Nat.zero_add, List.nil_append] at hown2
        exact hK _ _ ⟨_, _, _, _, _, _, _, _, _, _, _, _, _, rfl, hf.s10 hL (hf.z.grown hgrow2 hf.z.size (fun q hq => (y7.lt q hq).1)) (fun k h1 h2 => hgrow2.block k h1 (fun e => h2 (Option.some.inj e))) hcs hown2⟩
    | 11, ho =>
      simp only [List.getElem?_toArray, List.getElem?_cons_zero, List.getElem?_cons_succ, Option.some.injEq] at ho
      subst ho
      simp [Region.binds] at hd
      obtain ⟨g6, c6, e6⟩ := (hf.f6 (by simp [hd])).form (by rw [List.length_append]; omega)
      rw [List.length_append] at e6
      subst e6
      obtain ⟨A10, c10, rfl, _⟩ := owns_form (hf.f10 (by simp [hd]))
      go_simp
      exact hK _ _ ⟨_, _, _, _, _, _, _, _, _, _, _, _, _, rfl, hf.s11 hL ⟨rfl, by simp [hd], by simp [hd]⟩⟩
    | 12, ho =>
      simp only [List.getElem?_toArray, List.getElem?_cons_zero, List.getElem?_cons_succ, Option.some.injEq] at ho
      subst ho
      simp [Region.binds] at hd
      go_simp
      exact hK _ _ ⟨_, _, _, _, _, _, _, _, _, _, _, _, _, rfl, (hf.below ((Below.refl _ _).alloc (Nat.le_refl _) _)).s12 hL ⟨_, rfl, hf.z.size, heap_alloc_new _ _⟩⟩
    | 13, ho =>
      simp only [List.getElem?_toArray, List.getElem?_cons_zero, List.getElem?_cons_succ, Option.some.injEq] at ho
      subst ho
      simp [Region.binds] at hd
      obtain ⟨g6, c6, e6⟩ := (hf.f6 (by simp [hd])).form (by rw [List.length_append]; omega)
      rw [List.length_append] at e6
      subst e6
      obtain ⟨A10, c10, rfl, _⟩ := owns_form (hf.f10 (by simp [hd]))
      obtain ⟨p, rfl, hp, y12⟩ := hf.f12 (by simp [hd])
      obtain rfl := hf.f11 (by simp [hd])
      have y12 := y12 hL
      have s0 : W.cell? ⟨p, 0, none⟩ = some (.slice none 0 0) := cell_of_row _ _ _ _ _ _ y12
      have s1 : W.cell? ⟨p, 1, none⟩ = some (.slice none 0 0) := cell_of_row _ _ _ _ _ _ y12
      have s2 : W.frozen? ⟨p, 0, none⟩ = false := frozen_of_row _ _ _ _ _ y12
      have s3 : W.frozen? ⟨p, 1, none⟩ = false := frozen_of_row _ _ _ _ _ y12
      go_simp
      have h1 : (W.setCell ⟨p, 0, none⟩ (.slice (some ⟨g6, 0, none⟩) (a.shows.length + b.shows.length) c6)).heap[p]? = some (.cells #[.slice (some ⟨g6, 0, none⟩) (a.shows.length + b.shows.length) c6, .slice none 0 0] 27) := by
        rw [heap_setCell_same _ _ _ _ _ _ y12]
        rfl
      have h2 := heap_setCell_same _ p 1 _ _ (.slice A10 a.steps.length c10) h1
      exact hK _ _ ⟨_, _, _, _, _, _, _, _, _, _, _, _, _, rfl, hf.s13 hL ((hf.z.setCell hp _).setCell hp _) (fun k k1 k2 => by rw [heap_setCell_other _ _ _ _ k2, heap_setCell_other _ _ _ _ k2]) y12 ⟨by simp [hd], by simp [hd], by simp [hd]⟩ ⟨p, rfl, hp, h2⟩⟩
    | k + 14, ho => simp at ho

end Go.Proofs.YtdgnhfhaaghoaaaGreatDoor
