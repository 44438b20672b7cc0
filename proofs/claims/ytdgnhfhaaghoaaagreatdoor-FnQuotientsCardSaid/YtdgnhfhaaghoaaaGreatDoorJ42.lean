/- Which states satisfy a formula: reference walked. Which states satisfy a formula: program and reference, the five cases joined. The states that satisfy a formula, listed: program and reference walked. What the formula of TellApart tells: the first state satisfies it, the second does not, and their parts differ. Plain law. Two well-formed labelled systems side by side are one; what the law of quotients asks. Plain law. -/
import Derived.Test.YtdgnhfhaaghoaaaGreatDoorProg
import Derived.Test.YtdgnhfhaaghoaaaGreatDoorJ33
import Derived.Test.YtdgnhfhaaghoaaaGreatDoorJ41
import Derived.Test.YtdgnhfhaaghoaaaGreatDoorJ30
import Derived.Test.YtdgnhfhaaghoaaaGreatDoorJ37
import Derived.Test.YtdgnhfhaaghoaaaGreatDoorJ39
import Derived.Test.YtdgnhfhaaghoaaaGreatDoorJ40
set_option linter.unusedSimpArgs false
set_option linter.unusedVariables false
namespace Go.Proofs.YtdgnhfhaaghoaaaGreatDoor
open Go.RowKit

set_option maxRecDepth 100000 in
set_option maxHeartbeats 20000000 in
theorem true_and (lv : Value) (l : Lab) (A : Option Addr) (c : Nat) (f : List Int) (k : Nat) (p2 p3 : Int) (sub sec : List Bool) (w : World) (hs : SmallLab l) (hl : RLab w lv l) (hf : f.length ≤ 200) (hA : Cells w A (ints f)) (hk : k < f.length) (h0 : f.getD k 0 = 3)
    (hsub : sub.length = l.shows.length) (hsec : sec.length = l.shows.length)
    (Hsub : ∀ W, Below w.heap.size w W → Calls Tryz.prog 84 #[lv, .slice A f.length c, .int .i64 ((k : Int) + 1)] W fun e W' => ∃ v, e = .returned (.tuple #[v, .int .i64 p2]) ∧ W'.ownsRow W.heap.size 4 1 v l.shows.length (bools sub) ∧ Below W.heap.size W W')
    (Hsec : ∀ W, Below w.heap.size w W → Calls Tryz.prog 84 #[lv, .slice A f.length c, .int .i64 p2] W fun e W' => ∃ v, e = .returned (.tuple #[v, .int .i64 p3]) ∧ W'.ownsRow W.heap.size 4 1 v l.shows.length (bools sec) ∧ Below W.heap.size W W') :
    Calls Tryz.prog 84 #[lv, .slice A f.length c, .int .i64 k] w fun e w' => ∃ v, e = .returned (.tuple #[v, .int .i64 (p3)]) ∧ w'.ownsRow w.heap.size 4 1 v l.shows.length (bools (List.zipWith (· && ·) sub sec)) ∧ Below w.heap.size w w' := by
  obtain ⟨i0, hi, hz0, hz1, hz2⟩ := info_parts info_bool
  obtain ⟨sv, tv, rfl, hsv, htv⟩ := hl
  have HSV := Lib.hid (show ∀ W, Below w.heap.size w W → RSS W sv l.shows from fun W hb => hsv.below hb)
  have HT := Lib.hid (show ∀ W, Below w.heap.size w W → RA3 W tv l.steps from fun W hb => htv.below hb)
  obtain ⟨B, d, vs, rfl, hm, hvl, hcB, hrow⟩ := hsv
  obtain ⟨D, dd, rfl, hdm, _⟩ := htv
  have hn := hs.1
  have hn3 := hs.2.1
  have hsm := hs.2.2
  obtain ⟨b, o, rfl, hc⟩ := hA.int (k := k) (by omega)
  have c00 := hc k (by omega)
  rw [h0] at c00
  have HC0 := Lib.hid c00
  have HH := Lib.hid Hsub
  have HH2 := Lib.hid Hsec
  clear Hsub Hsec
  obtain ⟨res, hres⟩ : ∃ res, res = List.zipWith (· && ·) sub sec := ⟨_, rfl⟩
  have hlen : res.length = l.shows.length := by rw [hres]; simp [hsub, hsec]
  have HAT := Lib.hid (show ∀ (j : Nat) x y, sub[j]? = some x → sec[j]? = some y → res[j]? = some (x && y) from fun j x y h1 h2 => by rw [hres, List.getElem?_zipWith, h1, h2])
  have HRES := Lib.hid hres
  clear hres
  clear c00 hc hA hvl hcB hrow
  go_enter Tryz.func84, Tryz.ntmps84
  go_wp2_with (first | (at_make; refine wpList_make_full _ rfl _ _ 79 rfl w.heap.size 4 i0 _ 1 Tryz.underlying79 hi hz0 hz1 _ _ _ _ l.shows.length rfl rfl rfl rfl (by rw [hz2]; omega) (by unfold maxLen; omega) (by simp) ?_; intro w1 hown hgrow; have hbel : Below w.heap.size w w1 := ((Below.refl _ _).alloc (Nat.le_refl _) _).grown hgrow (by simp) (by simp); have c0 := cell_below hbel HC0.out (lt_of_cell HC0.out); have q0 := cell_of_row w1 w.heap.size 0 _ _ _ ((hgrow.block w.heap.size (by simp) (by simp)).trans (heap_alloc_new _ _)); have q1 := cell_of_row w1 w.heap.size 1 _ _ _ ((hgrow.block w.heap.size (by simp) (by simp)).trans (heap_alloc_new _ _))) | fail)
  rw [fill_start _ res hlen, World.size_alloc] at hown
  refine (HH.out w1 hbel).mono ?_
  rintro e w1a ⟨v1, rfl, ho1, hb1⟩
  obtain ⟨A1, c1, rfl, ho1⟩ := owns_form ho1
  have hs1 : w1.heap.size ≤ w1a.heap.size := hb1.size
  have q0a := cell_below hb1 q0 (lt_of_cell q0)
  have q1a := cell_below hb1 q1 (lt_of_cell q1)
  have hlt1 : w.heap.size + 1 < w1.heap.size := (hown.lt _ rfl).2
  have hown1 := owns_below hown hb1 (Nat.le_refl _)
  have hbel1 : Below w.heap.size w w1a := hbel.trans (hb1.mono hbel.size)
  clear hb1
  go_wp2_with fail
  refine (HH2.out w1a hbel1).mono ?_
  rintro e w2 ⟨v2, rfl, ho2, hb2⟩
  obtain ⟨A2, c2, rfl, ho2⟩ := owns_form ho2
  have HO1 := Lib.hid (show Own w2 (fun b => w1.heap.size ≤ b) (.slice A1 l.shows.length c1) l.shows.length (bools sub) from ((Own.of_owns ho1).below hb2 (Nat.le_refl _)).mono (fun g hg => (ho1.lt g hg).1))
  have hown2 := owns_below hown1 hb2 (Nat.le_refl _)
  have hbel2 := hbel1.trans (hb2.mono hbel1.size)
  have HO2 := Lib.hid (show Own w2 (fun b => w1.heap.size ≤ b) (.slice A2 l.shows.length c2) l.shows.length (bools sec) from (Own.of_owns ho2).mono (fun g hg => Nat.le_trans hs1 (ho2.lt g hg).1))
  clear hgrow c0 q0 q1 q0a q1a hown hown1 ho1 ho2 hbel hbel1 hb2
  go_wp2_with fail
  go_loopw [19] (fun i wr => ∃ j : Nat, j ≤ l.shows.length ∧ i = .int .i64 j ∧ wr.ownsRow w.heap.size 4 1 (.slice (some ⟨w.heap.size + 1, 0, none⟩) l.shows.length l.shows.length) l.shows.length (bools (fillV res false j)) ∧ Below w.heap.size w wr ∧ Kept (fun b => b = w.heap.size + 1) w2 wr)
    (fun i _ => l.shows.length - (intOf i).toNat)
  case atStart => exact ⟨0, Nat.zero_le _, rfl, hown2, hbel2, Kept.refl _ _⟩
  case round =>
    clear hown2 hbel2
    obtain ⟨j, hj, rfl, hown, hbel, hkp⟩ := hrel
    by_cases hlt : j < l.shows.length
    · obtain ⟨A', c', e, hcs⟩ := (HO1.out.kept hkp (fun b h1 h2 => by omega)).cells
      cases e
      obtain ⟨b2, o2, rfl, hcb⟩ := hcs.at_ (k := j) (by simp; omega)
      obtain ⟨A3, c3, e, hcs3⟩ := (HO2.out.kept hkp (fun b h1 h2 => by omega)).cells
      cases e
      obtain ⟨b3, o3, rfl, hcb3⟩ := hcs3.at_ (k := j) (by simp; omega)
      have hjs : j < sub.length := by omega
      have hjs3 : j < sec.length := by omega
      have hcj := hcb j (.bool sub[j]) (by simp [hjs])
      have hcj3 := hcb3 j (.bool sec[j]) (by simp [hjs3])
      have hx := HAT.out j _ _ (List.getElem?_eq_getElem hjs) (List.getElem?_eq_getElem hjs3)
      generalize sub[j] = x at *
      generalize sec[j] = y at *
      clear hcb hcs hcb3 hcs3
      obtain ⟨g1, g2, g3⟩ := fill_step hown hlen hlt hx
      have HN := Lib.hid g3
      have HB := Lib.hid (hbel.setCell (p := ⟨w.heap.size + 1, j, none⟩) (by simp) (.bool (x && y)))
      have HK := Lib.hid (hkp.setCell (p := ⟨w.heap.size + 1, j, none⟩) rfl (.bool (x && y)))
      clear hown hbel g3 hkp
      have b0 : (0 : Int) ≤ (j : Int) := by omega
      have b1 : (j : Int) < (l.shows.length : Int) := by omega
      cases x
      · go_wp2_with fail
        go_roundw
        case rel => exact ⟨j + 1, by omega, by go_num, HN.out, HB.out, HK.out⟩
        case measure => simp [intOf]; omega
      · go_wp2_with fail
        go_roundw
        case rel => exact ⟨j + 1, by omega, by go_num, HN.out, HB.out, HK.out⟩
        case measure => simp [intOf]; omega
    · obtain rfl : j = l.shows.length := by omega
      rw [fill_end hlen] at hown
      have HO := Lib.hid hown
      clear hown
      go_wp2_with fail
      go_ret2
      exact ⟨_, rfl, by rw [← HRES.out]; exact HO.out, hbel⟩

end Go.Proofs.YtdgnhfhaaghoaaaGreatDoor

set_option linter.unusedVariables false
namespace Go.Proofs.YtdgnhfhaaghoaaaGreatDoor
open Go.RowKit

end Go.Proofs.YtdgnhfhaaghoaaaGreatDoor

set_option linter.unusedVariables false
namespace Go.Proofs.YtdgnhfhaaghoaaaGreatDoor
open Go.RowKit

end Go.Proofs.YtdgnhfhaaghoaaaGreatDoor

set_option linter.unusedVariables false
namespace Go.Proofs.YtdgnhfhaaghoaaaGreatDoor
open Go.RowKit

theorem goodL_of {l : Lab} (h : goodLab l = true) : GoodL l where
  some_ := (goodF_size h).1
  steps := goodF_steps h
  acts := goodF_acts h
  marks := fun i hi => ⟨(goodF_row h hi).1, (goodF_row h hi).2.1⟩
end Go.Proofs.YtdgnhfhaaghoaaaGreatDoor

set_option linter.unusedVariables false
namespace Go.Proofs.YtdgnhfhaaghoaaaGreatDoor
open Go.RowKit

theorem lt3_shift (n : Int) (t u : I3) : lt3 (t.1 + n, t.2.1, t.2.2 + n) (u.1 + n, u.2.1, u.2.2 + n) = lt3 t u := by
  obtain ⟨a, b, c⟩ := t
  obtain ⟨d, e, f⟩ := u
  show lt3 (a + n, b, c + n) (d + n, e, f + n) = lt3 (a, b, c) (d, e, f)
  by_cases h1 : a = d
  · subst h1
    by_cases h2 : b = e
    · subst h2
      by_cases h3 : c = f
      · subst h3
        rw [lt3_self, lt3_self]
      · rw [lt3_ne3 (show c + n ≠ f + n by omega), lt3_ne3 h3]
        simp
    · rw [lt3_ne2 h2, lt3_ne2 h2]
  · rw [lt3_ne1 (show a + n ≠ d + n by omega), lt3_ne1 h1]
    simp
theorem goodF_order {l : Lab} (h : goodLab l = true) {k : Nat} (hk : k + 1 < l.steps.length) : lt3 (l.steps.getD k (0, 0, 0)) (l.steps.getD (k + 1) (0, 0, 0)) = true := by
  unfold goodLab goodSteps at h
  simp only [Bool.and_eq_true] at h
  have h2 := goodF_all h.2.1 hk
  unfold stepAt at h2
  rw [Nat.add_sub_cancel] at h2
  simp only [Bool.and_eq_true, Bool.or_eq_true, beq_iff_eq] at h2
  rcases h2.2 with h3 | h3
  · omega
  · exact h3
theorem goodF_rise {l : Lab} (h : goodLab l = true) {k : Nat} (hk : k < l.shows.length) : rising 0 7 (l.shows.getD k []) = true := by
  unfold goodLab goodShows at h
  simp only [Bool.and_eq_true] at h
  exact goodF_all h.2.2 hk
theorem inB_mk {n lo hi : Int} (h : lo ≤ n ∧ n ≤ hi) : inB n lo hi = true := by unfold inB; simp; exact h
theorem goodLab_mk {l : Lab} (h1 : 1 ≤ l.shows.length) (h2 : l.shows.length ≤ 40) (h3 : ∀ s ∈ l.steps, 0 ≤ s.1 ∧ s.1 < l.shows.length ∧ 0 ≤ s.2.1 ∧ s.2.1 < 8 ∧ 0 ≤ s.2.2 ∧ s.2.2 < l.shows.length)
    (h4 : ∀ k, k + 1 < l.steps.length → lt3 (l.steps.getD k (0, 0, 0)) (l.steps.getD (k + 1) (0, 0, 0)) = true) (h5 : ∀ k, k < l.shows.length → rising 0 7 (l.shows.getD k []) = true) : goodLab l = true := by
  unfold goodLab goodSteps goodShows
  rw [Bool.and_eq_true, Bool.and_eq_true]
  refine ⟨inB_mk (by omega), allR_true fun k hk => ?_, allR_true h5⟩
  unfold stepAt
  rw [Bool.and_eq_true]
  have e : l.steps.getD k (0, 0, 0) = l.steps[k] := by simp [List.getD, hk]
  refine ⟨?_, ?_⟩
  · have := h3 l.steps[k] (List.getElem_mem hk)
    unfold stepIn
    rw [e, Bool.and_eq_true, Bool.and_eq_true]
    exact ⟨inB_mk (by omega), inB_mk (by omega), inB_mk (by omega)⟩
  · cases k with
    | zero => rfl
    | succ k =>
      have := h4 k hk
      rw [Nat.add_sub_cancel, this]
      simp
theorem uni_goodLab {a b : Lab} (h : okU a b = true) : goodLab (uniQ a b) = true := by
  unfold okU at h
  simp only [Bool.and_eq_true, decide_eq_true_eq] at h
  obtain ⟨⟨ha, hb⟩, hn⟩ := h
  have a1 := goodF_size ha
  have b1 := goodF_size hb
  have hlen : (uniQ a b).steps.length = a.steps.length + b.steps.length := by simp [uniQ]
  have g1 : ∀ k, k < a.steps.length → (uniQ a b).steps.getD k (0, 0, 0) = a.steps.getD k (0, 0, 0) := fun k hk => by simp [uniQ, List.getD, List.getElem?_append_left hk]
  have g2 : ∀ k, k < b.steps.length → (uniQ a b).steps.getD (a.steps.length + k) (0, 0, 0) = shiftQ a.shows.length (b.steps.getD k (0, 0, 0)) := fun k hk => by
    simp [uniQ, List.getD, List.getElem?_append_right, hk]
  refine goodLab_mk (by rw [uni_len]; omega) (by rw [uni_len]; omega) (fun s hs => ?_) (fun k hk => ?_) (fun k hk => ?_)
  · rw [uni_len]
    rcases uni_mem.1 hs with h | ⟨t, h, rfl⟩
    · obtain ⟨i, hi, rfl⟩ := List.getElem_of_mem h
      have := goodF_in ha hi
      omega
    · obtain ⟨i, hi, rfl⟩ := List.getElem_of_mem h
      have := goodF_in hb hi
      unfold shiftQ
      dsimp only
      omega
  · rw [hlen] at hk
    rcases Nat.lt_trichotomy (k + 1) a.steps.length with h | h | h
    · rw [g1 k (by omega), g1 (k + 1) h]
      exact goodF_order ha h
    · have hb0 : 0 < b.steps.length := by omega
      have e2 := g2 0 hb0
      rw [Nat.add_zero, ← h] at e2
      rw [g1 k (by omega), e2]
      have e3 : a.steps.getD k (0, 0, 0) = a.steps[k]'(by omega) := by simp [List.getD, show k < a.steps.length by omega]
      have e4 : b.steps.getD 0 (0, 0, 0) = b.steps[0] := by simp [List.getD, hb0]
      have i1 := goodF_in ha (show k < a.steps.length by omega)
      have i2 := goodF_in hb hb0
      rw [e3, e4]
      unfold shiftQ
      generalize a.steps[k]'(by omega) = x at *
      generalize b.steps[0] = y at *
      obtain ⟨x1, x2, x3⟩ := x
      dsimp only at *
      rw [lt3_ne1 (by omega)]
      simp
      omega
    · obtain ⟨j, rfl⟩ : ∃ j, k = a.steps.length + j := ⟨k - a.steps.length, by omega⟩
      rw [g2 j (by omega), Nat.add_assoc, g2 (j + 1) (by omega)]
      unfold shiftQ
      rw [lt3_shift]
      exact goodF_order hb (by omega)
  · rw [uni_len] at hk
    rcases Nat.lt_or_ge k a.shows.length with h | h
    · rw [uni_show1 h]; exact goodF_rise ha h
    · obtain ⟨j, rfl⟩ : ∃ j, k = a.shows.length + j := ⟨k - a.shows.length, by omega⟩
      rw [uni_show2]; exact goodF_rise hb (by omega)

theorem shift_eq {n m : Nat} (hn : n ≤ 100) (hm : m ≤ 100) {s : I3} (h : 0 ≤ s.1 ∧ s.1 < m ∧ 0 ≤ s.2.2 ∧ s.2.2 < m) : shiftS n s = shiftQ n s := by
  unfold shiftS shiftQ wrap64
  obtain ⟨a, b, c⟩ := s
  dsimp only at *
  rw [Prod.mk.injEq, Prod.mk.injEq]
  refine ⟨by omega, rfl, by omega⟩
theorem union_is {a b : Lab} (h : okU a b = true) : unionR a b = uniQ a b := by
  unfold unionR
  rw [if_pos h]
  unfold okU at h
  simp only [Bool.and_eq_true, decide_eq_true_eq] at h
  obtain ⟨⟨ha, hb⟩, hn⟩ := h
  unfold uniL uniQ
  congr 2
  apply List.map_congr_left
  intro s hs
  obtain ⟨i, hi, rfl⟩ := List.getElem_of_mem hs
  have := goodF_in hb hi
  exact shift_eq (m := b.shows.length) (by omega) (by have := goodF_size hb; omega) (by omega)
theorem union_good {a b : Lab} (h : okU a b = true) : goodLab (unionR a b) = true := by rw [union_is h]; exact uni_goodLab h

theorem bisR_at {l : Lab} (h : goodLab l = true) : (bisR l).length = l.shows.length ∧ 0 < (bisR l).length := by
  have := goodF_size h
  unfold bisR
  rw [if_pos h, show (lastL l).length = _ from parts_len _ _]
  omega
theorem bisR_pos {l : Lab} (h : goodLab l = true) : 0 < (bisR l).length := (bisR_at h).2
/-- The classes of the first system stay in the union. -/
theorem union_first {a b : Lab} (h : okU a b = true) : (bisR (unionR a b)).take (bisR a).length = bisR a ∧ (bisR a).length ≤ (bisR (unionR a b)).length := by
  have hg := union_good h
  have hu := union_is h
  have h' := h
  unfold okU at h
  simp only [Bool.and_eq_true, decide_eq_true_eq] at h
  obtain ⟨⟨ha, hb⟩, hn⟩ := h
  unfold bisR
  rw [if_pos hg, if_pos ha, hu]
  have l1 : (lastL (uniQ a b)).length = a.shows.length + b.shows.length := by rw [show (lastL (uniQ a b)).length = _ from parts_len _ _, uni_len]
  have l2 : (lastL a).length = a.shows.length := parts_len _ _
  refine ⟨?_, by omega⟩
  refine list_ext (by rw [List.length_take]; omega) fun i hi => ?_
  have hi' : i < a.shows.length := by rw [List.length_take] at hi; omega
  rw [← uni_last (goodL_of ha) (goodL_of hb) hi']
  simp [List.getD, List.getElem?_take, show i < (lastL a).length by omega]
/-- No two states of the quotient are bisimilar. -/
theorem quo_self {l : Lab} (hg : goodLab l = true) {i : Nat} (hi : i < (bisR (quoR l)).length) : (bisR (quoR l)).getD i 0 = (i : Int) := by
  have hq : quoR l = quoL l := by unfold quoR; rw [if_pos hg]
  rw [hq] at hi ⊢
  unfold bisR at hi ⊢
  split at hi
  · rename_i h
    rw [if_pos h]
    have : (lastL (quoL l)).length = (quoL l).shows.length := parts_len _ _
    exact quo_own (goodL_of hg) (by omega)
  · simp at hi
/-- The classes of a system and its quotient, side by side. -/
theorem quo_side {l : Lab} (hg : goodLab l = true) (h : okU l (quoR l) = true) : (bisR (unionR l (quoR l))).length = l.shows.length + (repsI l).length ∧ ∀ p r : Nat, (repsI l)[p]? = some (r : Int) → (bisR (unionR l (quoR l))).getD (l.shows.length + p) 0 = (r : Int) := by
  have hq : quoR l = quoL l := by unfold quoR; rw [if_pos hg]
  have hgu := union_good h
  have hu := union_is h
  rw [hq] at hgu hu ⊢
  unfold bisR
  rw [if_pos hgu, hu]
  refine ⟨?_, fun p r hp => quo_last (goodL_of hg) hp⟩
  rw [show (lastL (uniQ l (quoL l))).length = _ from parts_len _ _, uni_len, quo_len]

end Go.Proofs.YtdgnhfhaaghoaaaGreatDoor
