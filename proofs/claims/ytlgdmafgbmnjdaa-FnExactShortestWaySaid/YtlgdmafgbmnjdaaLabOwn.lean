/- Labelled systems of a call's own: copied, marked, asked for the mark. -/
import Derived.Test.YtlgdmafgbmnjdaaProg
import Derived.Test.YtlgdmafgbmnjdaaLabTo
import Derived.Test.YtlgdmafgbmnjdaaOwn
set_option linter.unusedVariables false
namespace Go.Proofs.Ytlgdmafgbmnjdaa
open Go.RowKit

/-- A slice of slices that may be written, no two rows in one block. -/
def OwnSS (w : World) (S : Nat → Prop) (v : Value) (xss : List (List Int)) : Prop :=
  ∃ (vs : List Value) (S0 : Nat → Prop) (T : Nat → Nat → Prop), Own w S0 v xss.length vs ∧ vs.length = xss.length ∧
    (∀ (i : Nat) u xs, vs[i]? = some u → xss[i]? = some xs → Own w (T i) u xs.length (ints xs)) ∧
    (∀ b, S0 b → S b) ∧ (∀ i b, T i b → S b ∧ ¬ S0 b) ∧ (∀ i j b, T i b → T j b → i = j)

def OwnLab (w : World) (S : Nat → Prop) (v : Value) (l : Lab) : Prop :=
  ∃ (sv tv : Value) (S1 S2 : Nat → Prop), v = .agg #[sv, tv] ∧ OwnSS w S1 sv l.shows ∧ Own w S2 tv l.steps.length (l.steps.flatMap tri) ∧
    (∀ b, S1 b → S b) ∧ (∀ b, S2 b → S b) ∧ (∀ b, S1 b → ¬ S2 b)

section
variable {w w' : World} {S T : Nat → Prop} {v : Value}

theorem Own.ri {xs : List Int} (h : Own w S v xs.length (ints xs)) (hn : xs.length ≤ maxLen) : RI w v xs := by
  obtain ⟨A, c, e, hc⟩ := h.cells
  exact ⟨A, c, e, hn, hc⟩
theorem Own.ra3 {l : List I3} (h : Own w S v l.length (l.flatMap tri)) (hn : l.length ≤ maxLen) : RA3 w v l := by
  obtain ⟨A, c, e, hc⟩ := h.cells
  exact ⟨A, c, e, hn, hc⟩
theorem OwnSS.rss {xss : List (List Int)} (h : OwnSS w S v xss) (hn : xss.length ≤ maxLen) (hs : ∀ xs ∈ xss, xs.length ≤ maxLen) : RSS w v xss := by
  obtain ⟨vs, S0, T, h0, hl, hi, _⟩ := h
  obtain ⟨A, c, e, hc⟩ := h0.cells
  exact ⟨A, c, vs, e, hn, hl, hc, fun i u xs h1 h2 => (hi i u xs h1 h2).ri (hs xs (List.mem_of_getElem? h2))⟩
theorem le_maxLen {n : Nat} (h : n ≤ 16777216) : n ≤ maxLen := by unfold maxLen; omega
theorem OwnSS.form {xss : List (List Int)} (h : OwnSS w S v xss) : ∃ A c, v = .slice A xss.length c := by
  obtain ⟨vs, S0, T, ⟨A, c, e, _⟩, _⟩ := h
  exact ⟨A, c, e⟩
theorem OwnLab.rlab {l : Lab} (h : OwnLab w S v l) (hs : SmallLab l) : RLab w v l := by
  obtain ⟨sv, tv, S1, S2, e, h1, h2, _⟩ := h
  exact ⟨sv, tv, e, h1.rss (le_maxLen hs.1) (fun xs hx => le_maxLen (hs.2.2 xs hx)), h2.ra3 (le_maxLen hs.2.1)⟩

theorem OwnSS.kept {xss : List (List Int)} (h : OwnSS w S v xss) (hk : Kept T w w') (hd : ∀ b, S b → ¬ T b) : OwnSS w' S v xss := by
  obtain ⟨vs, S0, R, h0, hl, hi, a1, a2, a3⟩ := h
  exact ⟨vs, S0, R, h0.kept hk (fun b hb => hd b (a1 b hb)), hl, fun i u xs h1 h2 => (hi i u xs h1 h2).kept hk (fun b hb => hd b (a2 i b hb).1), a1, a2, a3⟩
theorem OwnSS.mono {xss : List (List Int)} (h : OwnSS w S v xss) (hs : ∀ b, S b → T b) : OwnSS w T v xss := by
  obtain ⟨vs, S0, R, h0, hl, hi, a1, a2, a3⟩ := h
  exact ⟨vs, S0, R, h0, hl, hi, fun b hb => hs b (a1 b hb), fun i b hb => ⟨hs b (a2 i b hb).1, (a2 i b hb).2⟩, a3⟩
theorem OwnLab.kept {l : Lab} (h : OwnLab w S v l) (hk : Kept T w w') (hd : ∀ b, S b → ¬ T b) : OwnLab w' S v l := by
  obtain ⟨sv, tv, S1, S2, e, h1, h2, a1, a2, a3⟩ := h
  exact ⟨sv, tv, S1, S2, e, h1.kept hk (fun b hb => hd b (a1 b hb)), h2.kept hk (fun b hb => hd b (a2 b hb)), a1, a2, a3⟩
theorem OwnLab.below {B : Nat} {l : Lab} (h : OwnLab w S v l) (hb : Below B w w') (hB : w.heap.size ≤ B) : OwnLab w' S v l :=
  h.kept (T := fun _ => False) ⟨hb.os, hb.tape, hb.output, hb.size, fun b hb' _ => hb.block b (by omega)⟩ (fun _ _ k => k)
theorem OwnSS.below {B : Nat} {l : List (List Int)} (h : OwnSS w S v l) (hb : Below B w w') (hB : w.heap.size ≤ B) : OwnSS w' S v l :=
  h.kept (T := fun _ => False) ⟨hb.os, hb.tape, hb.output, hb.size, fun b hb' _ => hb.block b (by omega)⟩ (fun _ _ k => k)
end

theorem info_slice : (Try.prog.info? 26).map (fun i => (i.zero, i.size, i.bytes)) = some (some (.slice none 0 0), 1, 24) := by kernel_rfl
theorem info_a3 : (Try.prog.info? 69).map (fun i => (i.zero, i.size, i.bytes)) = some (some (.agg #[.int .i64 0, .int .i64 0, .int .i64 0]), 3, 24) := by kernel_rfl

theorem made3 (n : Nat) : (madeCells #[Value.int .i64 0, .int .i64 0, .int .i64 0] n).toList = List.replicate n (.int .i64 0) := by
  apply List.ext_getElem?
  intro j
  by_cases hj : j < n
  · have h3 : j % 3 < 3 := Nat.mod_lt _ (by omega)
    simp [madeCells, hj]
    rcases (show j % 3 = 0 ∨ j % 3 = 1 ∨ j % 3 = 2 by omega) with h | h | h <;> rw [h] <;> rfl
  · simp [madeCells, hj]

/-- What a loop has copied into a row of zero triples after k rounds. -/
def fillA (l : List I3) (k : Nat) : List Value := (l.take k).flatMap tri ++ List.replicate ((l.length - k) * 3) (.int .i64 0)

theorem tri_len (l : List I3) : (l.flatMap tri).length = l.length * 3 := by
  induction l with
  | nil => rfl
  | cons a r ih => rw [List.flatMap_cons, List.length_append, ih]; simp [tri]; omega

theorem fillA_len (l : List I3) (k : Nat) (h : k ≤ l.length) : (fillA l k).length = l.length * 3 := by
  unfold fillA
  rw [List.length_append, tri_len, List.length_take, List.length_replicate]
  omega

theorem fillA_set (l : List I3) (k : Nat) (t : I3) (h : l[k]? = some t) :
    (((fillA l k).set (k * 3) (.int .i64 t.1)).set (k * 3 + 1) (.int .i64 t.2.1)).set (k * 3 + 2) (.int .i64 t.2.2) = fillA l (k + 1) := by
  have hl := (List.getElem?_eq_some_iff.1 h).1
  have e1 : l.take (k + 1) = l.take k ++ [t] := by
    rw [List.take_succ_eq_append_getElem hl]
    rw [List.getElem?_eq_getElem hl] at h
    injection h with h
    rw [h]
  have e2 : (l.length - k) * 3 = (l.length - (k + 1)) * 3 + 1 + 1 + 1 := by omega
  have e3 : ((l.take k).flatMap tri).length = k * 3 := by rw [tri_len, List.length_take]; omega
  unfold fillA
  rw [e1, e2, List.flatMap_append, List.replicate_succ, List.replicate_succ, List.replicate_succ]
  generalize (l.take k).flatMap tri = P at e3
  rw [List.set_append_right _ _ (by omega), List.set_append_right _ _ (by omega), List.set_append_right _ _ (by omega), e3]
  simp [tri, List.set_cons_succ, show k * 3 + 1 - k * 3 = 1 by omega, show k * 3 + 2 - k * 3 = 2 by omega]

theorem fillA_at (l : List I3) (k j : Nat) (h : k < l.length) (hj : j < 3) : (fillA l k)[k * 3 + j]? = some (.int .i64 0) := by
  unfold fillA
  have e3 : ((l.take k).flatMap tri).length = k * 3 := by rw [tri_len, List.length_take]; omega
  rw [List.getElem?_append_right (by omega), e3, List.getElem?_replicate, if_pos (by omega)]

set_option maxRecDepth 100000 in
set_option maxHeartbeats 1000000 in
theorem toIntA3S_any (v : Value) (l : List I3) (w : World) (hv : RA3 w v l) (hn : l.length ≤ 16777216) :
    Calls Try.prog 38 #[v] w fun e w' => ∃ u, e = .returned u ∧ w'.ownsRow w.heap.size 69 3 u l.length (l.flatMap tri) ∧ Below w.heap.size w w' := by
  obtain ⟨i0, hi, hz0, hz1, hz2⟩ := info_parts info_a3
  have hv' := hv
  obtain ⟨A, c, rfl, _, hA⟩ := hv
  go_enter Try.func38, Try.ntmps38
  go_wp2_with (first | (at_make; refine wpList_make_full _ rfl _ _ 23 rfl w.heap.size 69 i0 _ 3 Try.underlying23 hi hz0 hz1 _ _ _ _ l.length rfl rfl rfl rfl (by rw [hz2]; omega) (by unfold maxLen; omega) (Nat.le_refl _) ?_; intro w1 hown hgrow))
  have hz : (madeCells (Value.agg #[.int .i64 0, .int .i64 0, .int .i64 0]).cells (l.length * 3)).toList = fillA l 0 := by
    show (madeCells #[_, _, _] _).toList = _
    rw [made3]
    rfl
  rw [hz] at hown
  have hbel : Below w.heap.size w w1 := (Below.refl _ _).grown hgrow (Nat.le_refl _) (by simp)
  clear hz hgrow
  go_loopw [4] (fun i wr => ∃ (k : Nat), k ≤ l.length ∧ i = .int .i64 k ∧
      wr.ownsRow w.heap.size 69 3 (.slice (some ⟨w.heap.size, 0, none⟩) l.length l.length) l.length (fillA l k) ∧ Below w.heap.size w wr)
    (fun i _ => l.length - (intOf i).toNat)
  case atStart => exact ⟨0, Nat.zero_le _, rfl, hown, hbel⟩
  case round =>
    clear hown hbel
    obtain ⟨k, hk, rfl, hown, hbel⟩ := hrel
    by_cases hlt : k < l.length
    · obtain ⟨b, o, c', ev, hc0, hc1, hc2⟩ := (hv'.below hbel).at_ (List.getElem?_eq_getElem hlt)
      cases ev
      have HX := Lib.hid (List.getElem?_eq_getElem hlt)
      clear hA hv'
      generalize l[k] = x at *
      have H := Lib.hid (toIntA3_any x.1 x.2.1 x.2.2 wr)
      have HO := Lib.hid hown
      have HB := Lib.hid hbel
      clear hown hbel
      go_wp2_with fail
      refine H.out.mono ?_
      rintro e w1 ⟨rfl, hb1⟩
      have hlw := (HO.out.lt w.heap.size rfl).2
      have hown := owns_below HO.out hb1 (Nat.le_refl _)
      have f0 : w1.cell? ⟨w.heap.size, k * 3, none⟩ = some (.int .i64 0) := by rw [hown.cellAt _ (by omega)]; exact fillA_at l k 0 hlt (by omega)
      have f1 : w1.cell? ⟨w.heap.size, k * 3 + 1, none⟩ = some (.int .i64 0) := by rw [hown.cellAt _ (by omega)]; exact fillA_at l k 1 hlt (by omega)
      have f2 : w1.cell? ⟨w.heap.size, k * 3 + 2, none⟩ = some (.int .i64 0) := by rw [hown.cellAt _ (by omega)]; exact fillA_at l k 2 hlt (by omega)
      have g0 := hown.frozenAt (k * 3)
      have g1 := hown.frozenAt (k * 3 + 1)
      have g2 := hown.frozenAt (k * 3 + 2)
      have HO1 := Lib.hid hown
      have HB1 := Lib.hid hb1
      clear hown hb1
      go_wp2
      go_roundw
      case rel =>
        refine ⟨k + 1, by omega, by go_num, ?_, ?_⟩
        · rw [← fillA_set l k x HX.out]
          exact (((HO1.out.stored _ _).1.stored _ _).1.stored _ _).1
        · exact (((HB.out.trans (HB1.out.mono HB.out.size)).setCell (Nat.le_refl _) _).setCell (Nat.le_refl _) _).setCell (Nat.le_refl _) _
      case measure => simp [intOf]; omega
    · obtain rfl : k = l.length := by omega
      have hf : fillA l l.length = l.flatMap tri := by simp [fillA]
      rw [hf] at hown
      have HO := Lib.hid hown
      have HB := Lib.hid hbel
      clear hown hbel
      go_wp2
      go_ret
      exact ⟨_, rfl, HO.out, HB.out⟩

end Go.Proofs.Ytlgdmafgbmnjdaa
