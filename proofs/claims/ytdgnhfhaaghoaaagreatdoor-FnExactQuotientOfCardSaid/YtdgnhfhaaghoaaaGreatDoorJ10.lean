/- Labelled systems of a call's own: copied, marked, asked for the mark. -/
import Derived.Test.YtdgnhfhaaghoaaaGreatDoorProg
import Derived.Test.YtdgnhfhaaghoaaaGreatDoorJ2
import Derived.Test.YtdgnhfhaaghoaaaGreatDoorJ3
set_option linter.unusedVariables false
namespace Go.Proofs.YtdgnhfhaaghoaaaGreatDoor
open Go.RowKit

/-- A slice of slices that may be written, no two rows in one block. -/
def OwnSS (w : World) (S : Nat → Prop) (v : Value) (xss : List (List Int)) : Prop :=
  ∃ (vs : List Value) (S0 : Nat → Prop) (T : Nat → Nat → Prop), Own w S0 v xss.length vs ∧ vs.length = xss.length ∧
    (∀ (i : Nat) u xs, vs[i]? = some u → xss[i]? = some xs → Own w (T i) u xs.length (ints xs)) ∧
    (∀ b, S0 b → S b) ∧ (∀ i b, T i b → S b ∧ ¬ S0 b) ∧ (∀ i j b, T i b → T j b → i = j)

def OwnLab (w : World) (S : Nat → Prop) (v : Value) (l : Lab) : Prop :=
  ∃ (sv tv : Value) (S1 S2 : Nat → Prop), v = .agg #[sv, tv] ∧ OwnSS w S1 sv l.shows ∧ Own w S2 tv l.steps.length (l.steps.flatMap tri) ∧
    (∀ b, S1 b → S b) ∧ (∀ b, S2 b → S b) ∧ (∀ b, S1 b → ¬ S2 b)

section
variable {w w' : World} {S T : Nat → Prop} {v : Value}

theorem Own.ri {xs : List Int} (h : Own w S v xs.length (ints xs)) (hn : xs.length ≤ maxLen) : RI w v xs := by
  obtain ⟨A, c, e, hc⟩ := h.cells
  exact ⟨A, c, e, hn, hc⟩
theorem Own.ra3 {l : List I3} (h : Own w S v l.length (l.flatMap tri)) (hn : l.length ≤ maxLen) : RA3 w v l := by
  obtain ⟨A, c, e, hc⟩ := h.cells
  exact ⟨A, c, e, hn, hc⟩
theorem OwnSS.rss {xss : List (List Int)} (h : OwnSS w S v xss) (hn : xss.length ≤ maxLen) (hs : ∀ xs ∈ xss, xs.length ≤ maxLen) : RSS w v xss := by
  obtain ⟨vs, S0, T, h0, hl, hi, _⟩ := h
  obtain ⟨A, c, e, hc⟩ := h0.cells
  exact ⟨A, c, vs, e, hn, hl, hc, fun i u xs h1 h2 => (hi i u xs h1 h2).ri (hs xs (List.mem_of_getElem? h2))⟩
theorem le_maxLen {n : Nat} (h : n ≤ 16777216) : n ≤ maxLen := by unfold maxLen; omega
theorem OwnSS.form {xss : List (List Int)} (h : OwnSS w S v xss) : ∃ A c, v = .slice A xss.length c := by
  obtain ⟨vs, S0, T, ⟨A, c, e, _⟩, _⟩ := h
  exact ⟨A, c, e⟩
theorem OwnLab.rlab {l : Lab} (h : OwnLab w S v l) (hs : SmallLab l) : RLab w v l := by
  obtain ⟨sv, tv, S1, S2, e, h1, h2, _⟩ := h
  exact ⟨sv, tv, e, h1.rss (le_maxLen hs.1) (fun xs hx => le_maxLen (hs.2.2 xs hx)), h2.ra3 (le_maxLen hs.2.1)⟩

theorem OwnSS.kept {xss : List (List Int)} (h : OwnSS w S v xss) (hk : Kept T w w') (hd : ∀ b, S b → ¬ T b) : OwnSS w' S v xss := by
  obtain ⟨vs, S0, R, h0, hl, hi, a1, a2, a3⟩ := h
  exact ⟨vs, S0, R, h0.kept hk (fun b hb => hd b (a1 b hb)), hl, fun i u xs h1 h2 => (hi i u xs h1 h2).kept hk (fun b hb => hd b (a2 i b hb).1), a1, a2, a3⟩
theorem OwnSS.mono {xss : List (List Int)} (h : OwnSS w S v xss) (hs : ∀ b, S b → T b) : OwnSS w T v xss := by
  obtain ⟨vs, S0, R, h0, hl, hi, a1, a2, a3⟩ := h
  exact ⟨vs, S0, R, h0, hl, hi, fun b hb => hs b (a1 b hb), fun i b hb => ⟨hs b (a2 i b hb).1, (a2 i b hb).2⟩, a3⟩
theorem OwnLab.kept {l : Lab} (h : OwnLab w S v l) (hk : Kept T w w') (hd : ∀ b, S b → ¬ T b) : OwnLab w' S v l := by
  obtain ⟨sv, tv, S1, S2, e, h1, h2, a1, a2, a3⟩ := h
  exact ⟨sv, tv, S1, S2, e, h1.kept hk (fun b hb => hd b (a1 b hb)), h2.kept hk (fun b hb => hd b (a2 b hb)), a1, a2, a3⟩
theorem OwnLab.below {B : Nat} {l : Lab} (h : OwnLab w S v l) (hb : Below B w w') (hB : w.heap.size ≤ B) : OwnLab w' S v l :=
  h.kept (T := fun _ => False) ⟨hb.os, hb.tape, hb.output, hb.size, fun b hb' _ => hb.block b (by omega)⟩ (fun _ _ k => k)
theorem OwnSS.below {B : Nat} {l : List (List Int)} (h : OwnSS w S v l) (hb : Below B w w') (hB : w.heap.size ≤ B) : OwnSS w' S v l :=
  h.kept (T := fun _ => False) ⟨hb.os, hb.tape, hb.output, hb.size, fun b hb' _ => hb.block b (by omega)⟩ (fun _ _ k => k)
end

theorem info_slice : (Tryz.prog.info? 30).map (fun i => (i.zero, i.size, i.bytes)) = some (some (.slice none 0 0), 1, 24) := by kernel_rfl
theorem info_a3 : (Tryz.prog.info? 103).map (fun i => (i.zero, i.size, i.bytes)) = some (some (.agg #[.int .i64 0, .int .i64 0, .int .i64 0]), 3, 24) := by kernel_rfl

set_option maxRecDepth 100000 in
set_option maxHeartbeats 1000000 in
theorem toIntSS_any (v : Value) (xss : List (List Int)) (w : World) (hv : RSS w v xss) (hn : xss.length ≤ 16777216) (hs : Small xss) :
    Calls Tryz.prog 65 #[v] w fun e w' => ∃ u, e = .returned u ∧ OwnSS w' (fun b => w.heap.size ≤ b ∧ b < w'.heap.size) u xss ∧ Below w.heap.size w w' := by
  obtain ⟨i0, hi, hz0, hz1, hz2⟩ := info_parts info_slice
  obtain ⟨A, c, us, rfl, _, hul, hA, hui⟩ := hv
  have HUL := Lib.hid hul
  clear hul
  go_enter Tryz.func65, Tryz.ntmps65
  go_wp2_with (first | (at_make; refine wpList_make_full _ rfl _ _ 24 rfl w.heap.size 30 i0 _ 1 Tryz.underlying24 hi hz0 hz1 _ _ _ _ xss.length rfl rfl rfl rfl (by rw [hz2]; omega) (by unfold maxLen; omega) (Nat.le_refl _) ?_; intro w1 hown hgrow))
  have hz : (madeCells (Value.slice none 0 0).cells (xss.length * 1)).toList = [] ++ List.replicate (xss.length - 0) (.slice none 0 0) := by
    show (madeCells #[_] _).toList = _
    rw [toList_madeCells_one, Nat.mul_one]
    rfl
  rw [hz] at hown
  have hbel : Below w.heap.size w w1 := (Below.refl _ _).grown hgrow (Nat.le_refl _) (by simp)
  have hw1 : w.heap.size < w1.heap.size := hown.lt w.heap.size rfl |>.2
  clear hz hgrow
  go_loopw [4] (fun i wr => ∃ (k : Nat) (vs : List Value), k ≤ xss.length ∧ i = .int .i64 k ∧ vs.length = k ∧
      wr.ownsRow w.heap.size 30 1 (.slice (some ⟨w.heap.size, 0, none⟩) xss.length xss.length) xss.length (vs ++ List.replicate (xss.length - k) (.slice none 0 0)) ∧ Below w.heap.size w wr ∧
      (∀ (i : Nat) u xs, vs[i]? = some u → xss[i]? = some xs → wr.ownsRow (w.heap.size + 1) 3 1 u xs.length (ints xs)) ∧
      (∀ (i j : Nat) u u' b, i < j → vs[i]? = some u → vs[j]? = some u' → u.ownBlock = some b → u'.ownBlock ≠ some b))
    (fun i _ => xss.length - (intOf i).toNat)
  case atStart => exact ⟨0, [], Nat.zero_le _, rfl, rfl, hown, hbel, fun i u xs h => by simp at h, fun i j u u' b _ h => by simp at h⟩
  case round =>
    clear hown hbel hw1
    obtain ⟨k, vs, hk, rfl, hvl, hown, hbel, hrows, hdis⟩ := hrel
    have HVL := Lib.hid hvl
    clear hvl
    by_cases hlt : k < xss.length
    · have hku : k < us.length := by have := HUL.out; omega
      obtain ⟨b, o, rfl, hc⟩ := (hA.below hbel).at_ hku
      have hck := hc k _ (List.getElem?_eq_getElem hku)
      obtain ⟨A1, c1, e1, _, hA1⟩ := (hui k _ _ (List.getElem?_eq_getElem hku) (List.getElem?_eq_getElem hlt)).below hbel
      rw [e1] at hck
      have hs1 := hs _ (List.getElem_mem hlt)
      have HX := Lib.hid (List.getElem?_eq_getElem hlt)
      clear hc hA hui e1 hs
      generalize xss[k] = x at *
      have H := Lib.hid (toIntS_any A1 c1 x wr hs1 hA1)
      clear hA1
      have HO := Lib.hid hown
      have HB := Lib.hid hbel
      have HR := Lib.hid hrows
      have HD := Lib.hid hdis
      clear hown hbel hrows hdis
      go_wp2_with fail
      refine H.out.mono ?_
      rintro e w1 ⟨u, rfl, hu, hb1⟩
      obtain ⟨A2, c2, rfl, hu⟩ := owns_form hu
      have hR := rows_step HO.out HVL.out hlt (Nat.le_refl _) HB.out HR.out HD.out HX.out (fun i hi => List.getElem?_eq_none (by have := HVL.out; omega))
        (fun i u h => ⟨_, List.getElem?_eq_getElem (by have := (List.getElem?_eq_some_iff.1 h).1; have := HVL.out; omega)⟩) hu hb1
      obtain ⟨hcell, hfr, r1, r2, r3, r4⟩ := hR
      have R1 := Lib.hid r1
      have R2 := Lib.hid r2
      have R3 := Lib.hid r3
      have R4 := Lib.hid r4
      clear r1 r2 r3 r4 hu hb1
      go_wp2
      go_roundw
      case rel => exact ⟨k + 1, vs ++ [_], by omega, by go_num, by have := HVL.out; simp [this], R1.out, R2.out, R3.out, R4.out⟩
      case measure => simp [intOf]; omega
    · obtain rfl : k = xss.length := by omega
      have HO := Lib.hid hown
      have HB := Lib.hid hbel
      have HR := Lib.hid hrows
      have HD := Lib.hid hdis
      clear hown hbel hrows hdis
      go_wp2
      go_ret
      refine ⟨_, rfl, ?_, HB.out⟩
      have hown := HO.out
      rw [Nat.sub_self, List.replicate_zero, List.append_nil] at hown
      have hlt0 := (hown.lt w.heap.size rfl).2
      refine ⟨vs, fun b => b = w.heap.size, fun i b => ∃ u, vs[i]? = some u ∧ u.ownBlock = some b, (Own.of_owns hown).mono (fun b hb => by simpa [Value.ownBlock] using hb.symm), HVL.out,
        fun i u xs h1 h2 => (Own.of_owns (HR.out i u xs h1 h2)).mono (fun b hb => ⟨u, h1, hb⟩), fun b hb => by subst hb; exact ⟨Nat.le_refl _, hlt0⟩, fun i b ⟨u, h1, h2⟩ => ?_, fun i j b ⟨u, h1, h2⟩ ⟨u', h1', h2'⟩ => ?_⟩
      · have hi := (List.getElem?_eq_some_iff.1 h1).1
        have h3 := (HR.out i u _ h1 (List.getElem?_eq_getElem (by have := HVL.out; omega))).lt b h2
        exact ⟨⟨by omega, h3.2⟩, by omega⟩
      · rcases Nat.lt_trichotomy i j with h | h | h
        · exact absurd h2' (HD.out i j u u' b h h1 h1' h2)
        · exact h
        · exact absurd h2 (HD.out j i u' u b h h1' h1 h2')

theorem made3 (n : Nat) : (madeCells #[Value.int .i64 0, .int .i64 0, .int .i64 0] n).toList = List.replicate n (.int .i64 0) := by
  apply List.ext_getElem?
  intro j
  by_cases hj : j < n
  · have h3 : j % 3 < 3 := Nat.mod_lt _ (by omega)
    simp [madeCells, hj]
    rcases (show j % 3 = 0 ∨ j % 3 = 1 ∨ j % 3 = 2 by omega) with h | h | h <;> rw [h] <;> rfl
  · simp [madeCells, hj]

/-- What a loop has copied into a row of zero triples after k rounds. -/
def fillA (l : List I3) (k : Nat) : List Value := (l.take k).flatMap tri ++ List.replicate ((l.length - k) * 3) (.int .i64 0)

theorem tri_len (l : List I3) : (l.flatMap tri).length = l.length * 3 := by
  induction l with
  | nil => rfl
  | cons a r ih => rw [List.flatMap_cons, List.length_append, ih]; simp [tri]; omega

theorem fillA_len (l : List I3) (k : Nat) (h : k ≤ l.length) : (fillA l k).length = l.length * 3 := by
  unfold fillA
  rw [List.length_append, tri_len, List.length_take, List.length_replicate]
  omega

theorem fillA_set (l : List I3) (k : Nat) (t : I3) (h : l[k]? = some t) :
    (((fillA l k).set (k * 3) (.int .i64 t.1)).set (k * 3 + 1) (.int .i64 t.2.1)).set (k * 3 + 2) (.int .i64 t.2.2) = fillA l (k + 1) := by
  have hl := (List.getElem?_eq_some_iff.1 h).1
  have e1 : l.take (k + 1) = l.take k ++ [t] := by
    rw [List.take_succ_eq_append_getElem hl]
    rw [List.getElem?_eq_getElem hl] at h
    injection h with h
    rw [h]
  have e2 : (l.length - k) * 3 = (l.length - (k + 1)) * 3 + 1 + 1 + 1 := by omega
  have e3 : ((l.take k).flatMap tri).length = k * 3 := by rw [tri_len, List.length_take]; omega
  unfold fillA
  rw [e1, e2, List.flatMap_append, List.replicate_succ, List.replicate_succ, List.replicate_succ]
  generalize (l.take k).flatMap tri = P at e3
  rw [List.set_append_right _ _ (by omega), List.set_append_right _ _ (by omega), List.set_append_right _ _ (by omega), e3]
  simp [tri, List.set_cons_succ, show k * 3 + 1 - k * 3 = 1 by omega, show k * 3 + 2 - k * 3 = 2 by omega]

theorem fillA_at (l : List I3) (k j : Nat) (h : k < l.length) (hj : j < 3) : (fillA l k)[k * 3 + j]? = some (.int .i64 0) := by
  unfold fillA
  have e3 : ((l.take k).flatMap tri).length = k * 3 := by rw [tri_len, List.length_take]; omega
  rw [List.getElem?_append_right (by omega), e3, List.getElem?_replicate, if_pos (by omega)]

set_option maxRecDepth 100000 in
set_option maxHeartbeats 1000000 in
theorem toIntA3S_any (v : Value) (l : List I3) (w : World) (hv : RA3 w v l) (hn : l.length ≤ 16777216) :
    Calls Tryz.prog 66 #[v] w fun e w' => ∃ u, e = .returned u ∧ w'.ownsRow w.heap.size 103 3 u l.length (l.flatMap tri) ∧ Below w.heap.size w w' := by
  obtain ⟨i0, hi, hz0, hz1, hz2⟩ := info_parts info_a3
  have hv' := hv
  obtain ⟨A, c, rfl, _, hA⟩ := hv
  go_enter Tryz.func66, Tryz.ntmps66
  go_wp2_with (first | (at_make; refine wpList_make_full _ rfl _ _ 25 rfl w.heap.size 103 i0 _ 3 Tryz.underlying25 hi hz0 hz1 _ _ _ _ l.length rfl rfl rfl rfl (by rw [hz2]; omega) (by unfold maxLen; omega) (Nat.le_refl _) ?_; intro w1 hown hgrow))
  have hz : (madeCells (Value.agg #[.int .i64 0, .int .i64 0, .int .i64 0]).cells (l.length * 3)).toList = fillA l 0 := by
    show (madeCells #[_, _, _] _).toList = _
    rw [made3]
    rfl
  rw [hz] at hown
  have hbel : Below w.heap.size w w1 := (Below.refl _ _).grown hgrow (Nat.le_refl _) (by simp)
  clear hz hgrow
  go_loopw [4] (fun i wr => ∃ (k : Nat), k ≤ l.length ∧ i = .int .i64 k ∧
      wr.ownsRow w.heap.size 103 3 (.slice (some ⟨w.heap.size, 0, none⟩) l.length l.length) l.length (fillA l k) ∧ Below w.heap.size w wr)
    (fun i _ => l.length - (intOf i).toNat)
  case atStart => exact ⟨0, Nat.zero_le _, rfl, hown, hbel⟩
  case round =>
    clear hown hbel
    obtain ⟨k, hk, rfl, hown, hbel⟩ := hrel
    by_cases hlt : k < l.length
    · obtain ⟨b, o, c', ev, hc0, hc1, hc2⟩ := (hv'.below hbel).at_ (List.getElem?_eq_getElem hlt)
      cases ev
      have HX := Lib.hid (List.getElem?_eq_getElem hlt)
      clear hA hv'
      generalize l[k] = x at *
      have H := Lib.hid (toIntA3_any x.1 x.2.1 x.2.2 wr)
      have HO := Lib.hid hown
      have HB := Lib.hid hbel
      clear hown hbel
      go_wp2_with fail
      refine H.out.mono ?_
      rintro e w1 ⟨rfl, hb1⟩
      have hlw := (HO.out.lt w.heap.size rfl).2
      have hown := owns_below HO.out hb1 (Nat.le_refl _)
      have f0 : w1.cell? ⟨w.heap.size, k * 3, none⟩ = some (.int .i64 0) := by rw [hown.cellAt _ (by omega)]; exact fillA_at l k 0 hlt (by omega)
      have f1 : w1.cell? ⟨w.heap.size, k * 3 + 1, none⟩ = some (.int .i64 0) := by rw [hown.cellAt _ (by omega)]; exact fillA_at l k 1 hlt (by omega)
      have f2 : w1.cell? ⟨w.heap.size, k * 3 + 2, none⟩ = some (.int .i64 0) := by rw [hown.cellAt _ (by omega)]; exact fillA_at l k 2 hlt (by omega)
      have g0 := hown.frozenAt (k * 3)
      have g1 := hown.frozenAt (k * 3 + 1)
      have g2 := hown.frozenAt (k * 3 + 2)
      have HO1 := Lib.hid hown
      have HB1 := Lib.hid hb1
      clear hown hb1
      go_wp2
      go_roundw
      case rel =>
        refine ⟨k + 1, by omega, by go_num, ?_, ?_⟩
        · rw [← fillA_set l k x HX.out]
          exact (((HO1.out.stored _ _).1.stored _ _).1.stored _ _).1
        · exact (((HB.out.trans (HB1.out.mono HB.out.size)).setCell (Nat.le_refl _) _).setCell (Nat.le_refl _) _).setCell (Nat.le_refl _) _
      case measure => simp [intOf]; omega
    · obtain rfl : k = l.length := by omega
      have hf : fillA l l.length = l.flatMap tri := by simp [fillA]
      rw [hf] at hown
      have HO := Lib.hid hown
      have HB := Lib.hid hbel
      clear hown hbel
      go_wp2
      go_ret
      exact ⟨_, rfl, HO.out, HB.out⟩

set_option maxHeartbeats 1000000 in
theorem toLabelled_any (v : Value) (l : Lab) (w : World) (hv : RLab w v l) (hs : SmallLab l) :
    Calls Tryz.prog 18 #[v] w fun e w' => ∃ u, e = .returned u ∧ OwnLab w' (fun b => w.heap.size ≤ b ∧ b < w'.heap.size) u l ∧ Below w.heap.size w w' := by
  obtain ⟨sv, tv, rfl, hsv, htv⟩ := hv
  have hb3 : ∀ o1 o2 o3, Below w.heap.size w (((w.alloc o1).alloc o2).alloc o3) := fun o1 o2 o3 => (((Below.refl _ _).alloc (Nat.le_refl _) o1).alloc (by simp) o2).alloc (by simp; omega) o3
  have H1 := Lib.hid (fun o1 o2 o3 => toIntSS_any sv l.shows (((w.alloc o1).alloc o2).alloc o3) (hsv.below (hb3 _ _ _)) hs.1 hs.2.2)
  go_enter Tryz.func18, Tryz.ntmps18
  go_wp2_with fail
  refine (H1.out _ _ _).mono ?_
  rintro e w1 ⟨u1, rfl, hown1, hw1⟩
  obtain ⟨A1, c1, rfl⟩ := hown1.form
  obtain ⟨b0, b1, b2, bz⟩ := three_boxes hw1
  have k1 : w1.cell? ⟨w.heap.size, 1, none⟩ = some tv := cell_of_row _ _ _ _ _ _ b0
  have k2 : w1.cell? ⟨w.heap.size + 1 + 1, 0, none⟩ = some (.slice none 0 0) := cell_of_row _ _ _ _ _ _ b2
  have k3 := frozen_of_row w1 _ 0 _ _ b2
  have hz := (hb3 _ _ _).trans (hw1.mono (hb3 _ _ _).size)
  have hz' := hz.setCell (p := ⟨w.heap.size + 1 + 1, 0, none⟩) (show w.heap.size ≤ w.heap.size + 1 + 1 by omega) (.slice A1 l.shows.length c1)
  have H2 := Lib.hid (toIntA3S_any tv l.steps (w1.setCell ⟨w.heap.size + 1 + 1, 0, none⟩ (.slice A1 l.shows.length c1)) (htv.below hz') hs.2.1)
  have HZ := Lib.hid hz'
  have HO := Lib.hid hown1
  have HW := Lib.hid hw1
  have B0 := Lib.hid b0
  have B1 := Lib.hid b1
  have B2 := Lib.hid b2
  clear hz hz' hown1 hw1 b0 b1 b2 hsv htv
  go_wp2_with fail
  refine H2.out.mono ?_
  rintro e w2 ⟨u2, rfl, hown2, hw2⟩
  obtain ⟨A2, c2, rfl, hown2⟩ := owns_form hown2
  have b1 : w2.heap[w.heap.size + 1]? = some (.cells #[.slice none 0 0, .slice none 0 0] 27) := by
    rw [hw2.block _ (by simp; omega), heap_setCell_other _ _ _ _ (by simp)]
    exact B1.out
  have b2 : w2.heap[w.heap.size + 1 + 1]? = some (.cells #[.slice A1 l.shows.length c1, .slice none 0 0] 27) := by
    rw [hw2.block _ (by simp; omega), heap_setCell_same _ _ _ _ _ _ B2.out]
    rfl
  have k1 : w2.cell? ⟨w.heap.size + 1, 0, none⟩ = some (.slice none 0 0) := cell_of_row _ _ _ _ _ _ b1
  have k2 : w2.cell? ⟨w.heap.size + 1, 1, none⟩ = some (.slice none 0 0) := cell_of_row _ _ _ _ _ _ b1
  have k3 := frozen_of_row w2 _ 0 _ _ b1
  have k4 := frozen_of_row w2 _ 1 _ _ b1
  have k5 : w2.cell? ⟨w.heap.size + 1 + 1, 0, none⟩ = some (.slice A1 l.shows.length c1) := cell_of_row _ _ _ _ _ _ b2
  have k6 : w2.cell? ⟨w.heap.size + 1 + 1, 1, none⟩ = some (.slice none 0 0) := cell_of_row _ _ _ _ _ _ b2
  have k7 := frozen_of_row w2 _ 0 _ _ b2
  have k8 := frozen_of_row w2 _ 1 _ _ b2
  have HO2 := Lib.hid hown2
  have HW2 := Lib.hid hw2
  clear hown2 hw2 b1 b2
  go_wp2_with fail
  refine bodyPost_ret (v := .agg #[.slice A1 l.shows.length c1, .slice A2 l.steps.length c2]) (by simp [results, Tryz.results18, go_sem, *]) rfl ⟨_, rfl, ?_, ?_⟩
  · have hsz := HW2.out.size
    simp only [World.size_setCell] at hsz
    have K1 : Kept (fun b => b < w.heap.size + 1 + 1 + 1) w1 w2 :=
      ((Kept.refl _ _).setCell (p := ⟨w.heap.size + 1 + 1, 0, none⟩) (by simp) _).trans (Kept.of_below HW2.out _)
    have K2 := ((K1.setCell (p := ⟨w.heap.size + 1 + 1, 1, none⟩) (by simp) (.slice A2 l.steps.length c2)).setCell (p := ⟨w.heap.size + 1, 0, none⟩) (by simp) (.slice A1 l.shows.length c1)).setCell (p := ⟨w.heap.size + 1, 1, none⟩) (by simp) (.slice A2 l.steps.length c2)
    have K3 : Kept (fun b => b < w.heap.size + 1 + 1 + 1) w2 _ :=
      (((Kept.refl _ _).setCell (p := ⟨w.heap.size + 1 + 1, 1, none⟩) (by simp) (.slice A2 l.steps.length c2)).setCell (p := ⟨w.heap.size + 1, 0, none⟩) (by simp) (.slice A1 l.shows.length c1)).setCell (p := ⟨w.heap.size + 1, 1, none⟩) (by simp) (.slice A2 l.steps.length c2)
    have hlt := HO2.out.lt
    simp only [World.size_setCell] at hlt
    refine ⟨_, _, fun b => w.heap.size + 1 + 1 + 1 ≤ b ∧ b < w1.heap.size, fun b => w1.heap.size ≤ b ∧ b < w2.heap.size, rfl, ?_, ?_, ?_, ?_, ?_⟩
    · exact (HO.out.mono (fun b hb => by simpa using hb)).kept K2 (fun b hb => by omega)
    · exact ((Own.of_owns HO2.out).mono (fun b hb => hlt b hb)).kept K3 (fun b hb => by omega)
    · intro b hb; simp; omega
    · intro b hb; simp; omega
    · intro b hb; omega
  · have hz := HZ.out.trans (HW2.out.mono HZ.out.size)
    exact ((hz.setCell (by simp; omega) _).setCell (by simp) _).setCell (by simp) _

end Go.Proofs.YtdgnhfhaaghoaaaGreatDoor
