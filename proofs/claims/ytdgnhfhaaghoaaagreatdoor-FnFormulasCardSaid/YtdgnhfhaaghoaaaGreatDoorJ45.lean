/- The laws' vCut: a suffix of a code, and a byte more, in new memory. What the law of formulas asks: each formula is read back from its text, bisimilar states satisfy the same formulas, and a formula and its negation share the states out. Plain law. -/
import Derived.Test.YtdgnhfhaaghoaaaGreatDoorProg
import Derived.Test.YtdgnhfhaaghoaaaGreatDoorJ1
import Derived.Test.YtdgnhfhaaghoaaaGreatDoorJ3
import Derived.Test.YtdgnhfhaaghoaaaGreatDoorJ7
import Derived.Test.YtdgnhfhaaghoaaaGreatDoorJ43
import Derived.Test.YtdgnhfhaaghoaaaGreatDoorJ38
set_option linter.unusedSimpArgs false
set_option linter.unusedVariables false
namespace Go.Proofs.YtdgnhfhaaghoaaaGreatDoor
open Go.RowKit

theorem info_u8 : (Tryz.prog.info? 5).map (fun i => (i.zero, i.size, i.bytes)) = some (some (.int .u8 0), 1, 1) := by kernel_rfl
theorem u8s_one (bs : List Int) : ∀ y ∈ u8s bs, y.oneCell' = true := fun y hy => by
  obtain ⟨x, _, rfl⟩ := List.mem_map.1 hy; rfl
theorem vcut_fin {w W1 : World} (hW : W1 = w.alloc (.cells #[] 5)) (x : Int) (Z : Array Value) (t : TypeId) :
    Cells ((W1.alloc (.cells #[.int .u8 x] t)).alloc (.cells (#[.int .u8 x] ++ Z) t)).drew (some ⟨w.heap.size + 1 + 1, 0, none⟩) (u8s [x]) ∧ Below w.heap.size w ((W1.alloc (.cells #[.int .u8 x] t)).alloc (.cells (#[.int .u8 x] ++ Z) t)).drew := by
  have hs : W1.heap.size = w.heap.size + 1 := by rw [hW]; simp
  have hb : Below w.heap.size w W1 := by rw [hW]; exact (Below.refl _ _).alloc (Nat.le_refl _) _
  refine ⟨fun j u hj => ?_, ((hb.alloc (by omega) _).alloc (by simp; omega) _).drew⟩
  match j, hj with
  | 0, hj =>
    simp [u8s] at hj
    subst hj
    refine ⟨_, _, rfl, ?_⟩
    have h := heap_alloc_new (W1.alloc (.cells #[.int .u8 x] t)) (.cells (#[.int .u8 x] ++ Z) t)
    rw [World.size_alloc, hs] at h
    exact (cell_of_row _ (w.heap.size + 1 + 1) 0 _ _ _ h).trans (by rw [Array.getElem?_append_left (by simp)]; rfl)

set_option maxRecDepth 100000 in
set_option maxHeartbeats 4000000 in
theorem vCut_any (A : Option Addr) (bs : List Int) (c n : Nat) (w : World) (hA : Cells w A (u8s bs)) (hrng : ∀ x ∈ bs, 0 ≤ x ∧ x < 256) (hc : bs.length ≤ c) (hlen : bs.length ≤ 1000000) (hn : n ≤ 200) :
    Calls Tryz.prog 31 #[.slice A bs.length c, .int .i64 n] w fun e w' => ∃ A' c' bs', e = .returned (.slice A' bs'.length c') ∧ Cells w' A' (u8s bs') ∧ (∀ x ∈ bs', 0 ≤ x ∧ x < 256) ∧ bs'.length ≤ bs.length + 1 ∧ Below w.heap.size w w' := by
  obtain ⟨i0, hi, hz0, hz1, hz2⟩ := info_parts info_u8
  obtain ⟨W1, hW1⟩ : ∃ W1, W1 = w.alloc (.cells #[] 5) := ⟨_, rfl⟩
  have HF := Lib.hid (fun x Z => vcut_fin hW1 x Z 5)
  by_cases hge : bs.length ≤ n
  · have HW1 := Lib.hid hW1
    have hAn : A = none → bs.length = 0 := fun e => by
      cases bs with
      | nil => rfl
      | cons x r => obtain ⟨b, o, e', _⟩ := hA 0 (.int .u8 x) rfl; rw [e] at e'; cases e'
    generalize bs.length = m at *
    clear hA hW1 hrng
    cases A with
    | none =>
      obtain rfl : m = 0 := hAn rfl
      by_cases hlt : 0 < n
      · have hlt' : (0 : Int) < (n : Int) := by omega
        go_enter Tryz.func31, Tryz.ntmps31
        go_wp2_with fail
        go_ret
        rw [← HW1.out]
        exact ⟨_, _, [0], rfl, (HF.out 0 _).1, (fun y hy => by simp at hy; subst hy; omega), by simp, (HF.out 0 _).2⟩
      · obtain rfl : n = 0 := by omega
        go_enter Tryz.func31, Tryz.ntmps31
        go_wp2_with fail
        go_ret
        rw [← HW1.out]
        exact ⟨_, _, [0], rfl, (HF.out 0 _).1, (fun y hy => by simp at hy; subst hy; omega), by simp, (HF.out 0 _).2⟩
    | some ad =>
      clear hAn
      by_cases hlt : m < n
      · have hlt' : (m : Int) < (n : Int) := by omega
        by_cases hcm : m = c
        · subst hcm
          go_enter Tryz.func31, Tryz.ntmps31
          go_wp2_with fail
          go_ret
          rw [← HW1.out]
          exact ⟨_, _, [(m : Int)], rfl, (HF.out (m : Int) _).1, (fun y hy => by simp at hy; subst hy; omega), by simp, (HF.out (m : Int) _).2⟩
        · have hcm' : ¬ (m : Int) = (c : Int) := by omega
          have hc' : (m : Int) ≤ (c : Int) := by omega
          go_enter Tryz.func31, Tryz.ntmps31
          go_wp2_with fail
          all_goals
            go_ret
            rw [← HW1.out]
            exact ⟨_, _, [(m : Int)], rfl, (HF.out (m : Int) _).1, (fun y hy => by simp at hy; subst hy; omega), by simp, (HF.out (m : Int) _).2⟩
      · obtain rfl : m = n := by omega
        by_cases hcm : m = c
        · subst hcm
          go_enter Tryz.func31, Tryz.ntmps31
          go_wp2_with fail
          go_ret
          rw [← HW1.out]
          exact ⟨_, _, [(m : Int)], rfl, (HF.out (m : Int) _).1, (fun y hy => by simp at hy; subst hy; omega), by simp, (HF.out (m : Int) _).2⟩
        · have hcm' : ¬ (m : Int) = (c : Int) := by omega
          have hc' : (m : Int) ≤ (c : Int) := by omega
          go_enter Tryz.func31, Tryz.ntmps31
          go_wp2_with fail
          all_goals
            go_ret
            rw [← HW1.out]
            exact ⟨_, _, [(m : Int)], rfl, (HF.out (m : Int) _).1, (fun y hy => by simp at hy; subst hy; omega), by simp, (HF.out (m : Int) _).2⟩
  have hgt : n < bs.length := by omega
  have hlt' : ¬ (bs.length : Int) < (n : Int) := by omega
  have hn1 : (n : Int) < (bs.length : Int) := by omega
  have hn2 : (n : Int) < (c : Int) := by omega
  have hcn : ¬ n = c := by omega
  obtain ⟨ad, rfl⟩ : ∃ ad, A = some ad := by
    cases bs with
    | nil => simp at hgt
    | cons x r => obtain ⟨b, o, e', _⟩ := hA 0 (.int .u8 x) rfl; exact ⟨_, e'⟩
  have hb1 : Below w.heap.size w W1 := by rw [hW1]; exact (Below.refl _ _).alloc (Nat.le_refl _) _
  have HO1 := Lib.hid (show W1.ownsRow w.heap.size 5 1 (.slice (some ⟨w.heap.size, 0, none⟩) 0 0) 0 [] by rw [hW1]; exact World.ownsRow_made w #[] 0 (Nat.le_refl _) (Nat.zero_le _) rfl)
  have HB1 := Lib.hid hb1
  have hs1 : W1.heap.size = w.heap.size + 1 := by rw [hW1]; simp
  have HCC := Lib.hid (show ∀ j u, (u8s (bs.drop n))[j]? = some u → W1.cell? ((ad.add n).add j) = some u from fun j u hj => by
    have hj' : (u8s bs)[n + j]? = some u := by
      have e : u8s (bs.drop n) = (u8s bs).drop n := by simp [u8s, List.map_drop]
      rw [e, List.getElem?_drop] at hj; exact hj
    obtain ⟨b, o, e, h⟩ := (hA.below hb1) _ _ hj'
    cases e
    rw [Addr.add_lit, Addr.add_lit, Nat.add_assoc]; exact h)
  have HW1 := Lib.hid hW1
  clear hW1 hb1 hA hge
  go_enter Tryz.func31, Tryz.ntmps31
  have e0 : (bs.drop n).length ≤ 1000000 := by simp; omega
  have e1 : (bs.drop n).length ≤ bs.length := by simp
  have HE := Lib.hid (show ∀ x ∈ bs.drop n, 0 ≤ x ∧ x < 256 from fun x hx => hrng x (List.mem_of_mem_drop hx))
  have HLE := Lib.hid (show bs.length - n = (bs.drop n).length by simp)
  generalize bs.drop n = r at *
  go_wp2_with (first
    | (at_builtin; refine wpList_append_own _ rfl (.tmp 11) (.tmp 14) 22 rfl w.heap.size 5 i0 (.int .u8 0) 1 1 Tryz.underlying22 hi hz0 hz1 hz2 rfl (by decide) _ _ _ rfl (HW1.out ▸ HO1.out) (ad.add n) (bs.length - n) (c - n) (u8s r) rfl (by simp [HLE.out]) (HW1.out ▸ HCC.out) (u8s_one _) (by unfold maxLen; omega) (by omega) (by rw [← HW1.out]; omega) ?_; intro v2 w2 hown2 hgrow2 _; rw [← HW1.out] at hgrow2; rw [show 0 + (bs.length - n) = r.length by rw [HLE.out]; omega, List.nil_append] at hown2; have hb2 := HB1.out.grown hgrow2 HB1.out.size (fun q hq => (HO1.out.lt q hq).1); have HO2 := Lib.hid hown2; have HB2 := Lib.hid hb2; have hs2 := hb2.size; clear hown2 hgrow2 hb2; have hb3 := (Below.refl w2.heap.size w2).alloc (Nat.le_refl _) (.cells #[.int .u8 (n : Int)] 5); have HB3 := Lib.hid (HB2.out.trans (hb3.mono HB2.out.size)); have HO3 := Lib.hid (HO2.out.alloc (.cells #[.int .u8 (n : Int)] 5)); have HC3 := Lib.hid (heap_alloc_new w2 (.cells #[.int .u8 (n : Int)] 5)); clear hb3)
    | (at_builtin; refine wpList_append_own _ rfl (.tmp 15) (.tmp 18) 22 rfl w.heap.size 5 i0 (.int .u8 0) 1 1 Tryz.underlying22 hi hz0 hz1 hz2 rfl (by decide) _ _ _ rfl HO3.out ⟨w2.heap.size, 0, none⟩ 1 1 [.int .u8 (n : Int)] rfl rfl (fun j' u' hj' => by match j', hj' with | 0, hj' => (simp at hj'; subst hj'; exact cell_of_row _ w2.heap.size _ _ _ _ HC3.out)) (fun u' hu' => by simp at hu'; subst hu'; rfl) (by unfold maxLen; omega) (by omega) (by simp; omega) ?_; intro v4 w4 hown4 hgrow4 _)
    | fail)
  have hb4 := HB3.out.grown hgrow4 HB3.out.size (fun q hq => (HO2.out.lt q hq).1)
  have hown4' : w4.ownsRow w.heap.size 5 1 v4 (r ++ [(n : Int)]).length (u8s (r ++ [(n : Int)])) := by simpa [u8s] using hown4
  obtain ⟨A', c', e4, h5⟩ := owns_form hown4'
  go_ret
  refine ⟨A', c', r ++ [(n : Int)], by rw [← e4]; rfl, Cells.of_owns h5, (fun y hy => by rcases List.mem_append.1 hy with h | h; exact HE.out y h; simp at h; subst h; omega), by simp; omega, hb4⟩

end Go.Proofs.YtdgnhfhaaghoaaaGreatDoor

set_option linter.unusedVariables false
namespace Go.Proofs.YtdgnhfhaaghoaaaGreatDoor
open Go.RowKit

theorem read_back {f : List Int} (h : isF f = true) : okP (gotI (fT f)) (fT f) = true ∧ pfI (fT f) = f := by
  have h1 : okP f (fT f) = true := by unfold okP; rw [h]; simp
  obtain ⟨h2, _, _⟩ := okP_got h1
  refine ⟨by rw [h2]; exact h1, ?_⟩
  unfold pfI
  rw [h2, if_pos h1]
theorem isF_tree {f : List Int} (h : isF f = true) : ∃ a : Fo, a.ok ∧ f = a.code ∧ f.length ≤ 200 := by
  obtain ⟨h1, h2, h3⟩ := isF_parts h
  obtain ⟨a, a1, a2⟩ := tree_of h3
  exact ⟨a, a1, a2, h2⟩
/-- Bisimilar states satisfy the same formulas. -/
theorem sat_same {l : Lab} {f : List Int} (h : okS l f = true) {i : Nat} (hi : i < l.shows.length) : ∃ k : Nat, (lastL l).getD i 0 = (k : Int) ∧ (satS l f).contains (i : Int) = (satS l f).contains (k : Int) := by
  unfold okS at h
  rw [Bool.and_eq_true] at h
  obtain ⟨hg, hf⟩ := h
  obtain ⟨a, ha, rfl, hn⟩ := isF_tree hf
  obtain ⟨k, h1, h2, h3, _⟩ := parts_spec l l.shows.length hi
  have hk : k < l.shows.length := by omega
  have hb : (lastL l).getD i 0 = (lastL l).getD k 0 := ((parts_iff l l.shows.length hk hi).2 h3).symm
  have hl := goodL_of hg
  refine ⟨k, h1, ?_⟩
  rw [satS_has hg ha hn hi, satS_has hg ha hn hk]
  exact sat_bisim l hl.some_ hl.steps (last_stable l hl.some_) a i k hi hk hb
theorem okS_not {l : Lab} {f : List Int} (h : okS l f = true) (hn : f.length < 200) : okS l (2 :: f) = true := by
  unfold okS at h
  rw [Bool.and_eq_true] at h
  obtain ⟨hg, hf⟩ := h
  obtain ⟨a, ha, rfl, _⟩ := isF_tree hf
  exact okS_code (a := .no a) hg ha (by show (2 :: a.code).length ≤ 200; rw [List.length_cons]; omega)
theorem filter_two (p : Nat → Bool) (l : List Nat) : (l.filter fun i => !p i).length + (l.filter p).length = l.length := by
  induction l with
  | nil => rfl
  | cons x l ih =>
    rw [List.filter_cons, List.filter_cons, List.length_cons]
    cases p x <;> simp <;> omega
theorem which_len2 {bs : List Bool} {k : Nat} {p : Nat → Bool} (h : ∀ i, i < k → bs.getD i false = p i) : (whichB bs k).length = ((List.range k).filter p).length := by
  unfold whichB
  rw [List.length_map]
  congr 1
  apply List.filter_congr
  intro x hx
  exact h x (List.mem_range.1 hx)
/-- A formula and its negation share the states out. -/
theorem sat_two {l : Lab} {f : List Int} (h : okS l f = true) (hn : f.length < 200) : (satS l (2 :: f)).length + (satS l f).length = l.shows.length := by
  have h2 := okS_not h hn
  have h' := h
  unfold okS at h
  rw [Bool.and_eq_true] at h
  obtain ⟨hg, hf⟩ := h
  obtain ⟨a, ha, rfl, _⟩ := isF_tree hf
  have hst : ∀ s ∈ l.steps, ∃ j : Nat, s.2.2 = (j : Int) ∧ j < l.shows.length := fun s hs => by obtain ⟨_, j, _, h, _, h2⟩ := goodF_steps hg s hs; exact ⟨j, h, h2⟩
  have e1 : satB l a.code a.code.length 0 = a.rows l := sat_tree l hst ha
  have e2 : satB l (2 :: a.code) (2 :: a.code).length 0 = (Fo.no a).rows l := sat_tree (a := .no a) l hst ha
  unfold satS
  rw [if_pos h', if_pos h2, e1, e2, which_len2 (p := fun i => a.sat l i) (fun i hi => rows_at hi), which_len2 (p := fun i => !a.sat l i) (fun i hi => by rw [rows_at hi]; rfl), filter_two, List.length_range]
theorem satS_len (l : Lab) (f : List Int) : (satS l f).length ≤ l.shows.length := by
  unfold satS
  split
  · exact which_len _ _
  · simp

end Go.Proofs.YtdgnhfhaaghoaaaGreatDoor
