/- The laws' vCut: a suffix of a code, and a byte more, in new memory. The laws' own helpers over tables and labelled systems, at equal ones: vInts (quietly), vTable, vSteps3, vLabelled. -/
import Derived.Test.YtdgnhfhaaghoaaaGreatDoorProg
import Derived.Test.YtdgnhfhaaghoaaaGreatDoorJ1
import Derived.Test.YtdgnhfhaaghoaaaGreatDoorJ2
import Derived.Test.YtdgnhfhaaghoaaaGreatDoorJ7
import Derived.Test.YtdgnhfhaaghoaaaGreatDoorJ0
import Derived.Test.YtdgnhfhaaghoaaaGreatDoorJ9
import Derived.BigQuiet
set_option linter.unusedSimpArgs false
set_option linter.unusedVariables false
namespace Go.Proofs.YtdgnhfhaaghoaaaGreatDoor
open Go.RowKit

theorem info_u8 : (Tryz.prog.info? 5).map (fun i => (i.zero, i.size, i.bytes)) = some (some (.int .u8 0), 1, 1) := by kernel_rfl
theorem u8s_one (bs : List Int) : ∀ y ∈ u8s bs, y.oneCell' = true := fun y hy => by
  obtain ⟨x, _, rfl⟩ := List.mem_map.1 hy; rfl
theorem vcut_fin {w W1 : World} (hW : W1 = w.alloc (.cells #[] 5)) (x : Int) (Z : Array Value) (t : TypeId) :
    Cells ((W1.alloc (.cells #[.int .u8 x] t)).alloc (.cells (#[.int .u8 x] ++ Z) t)).drew (some ⟨w.heap.size + 1 + 1, 0, none⟩) (u8s [x]) ∧ Below w.heap.size w ((W1.alloc (.cells #[.int .u8 x] t)).alloc (.cells (#[.int .u8 x] ++ Z) t)).drew := by
  have hs : W1.heap.size = w.heap.size + 1 := by rw [hW]; simp
  have hb : Below w.heap.size w W1 := by rw [hW]; exact (Below.refl _ _).alloc (Nat.le_refl _) _
  refine ⟨fun j u hj => ?_, ((hb.alloc (by omega) _).alloc (by simp; omega) _).drew⟩
  match j, hj with
  | 0, hj =>
    simp [u8s] at hj
    subst hj
    refine ⟨_, _, rfl, ?_⟩
    have h := heap_alloc_new (W1.alloc (.cells #[.int .u8 x] t)) (.cells (#[.int .u8 x] ++ Z) t)
    rw [World.size_alloc, hs] at h
    exact (cell_of_row _ (w.heap.size + 1 + 1) 0 _ _ _ h).trans (by rw [Array.getElem?_append_left (by simp)]; rfl)

set_option maxRecDepth 100000 in
set_option maxHeartbeats 4000000 in
theorem vCut_any (A : Option Addr) (bs : List Int) (c n : Nat) (w : World) (hA : Cells w A (u8s bs)) (hrng : ∀ x ∈ bs, 0 ≤ x ∧ x < 256) (hc : bs.length ≤ c) (hlen : bs.length ≤ 1000000) (hn : n ≤ 200) :
    Calls Tryz.prog 31 #[.slice A bs.length c, .int .i64 n] w fun e w' => ∃ A' c' bs', e = .returned (.slice A' bs'.length c') ∧ Cells w' A' (u8s bs') ∧ (∀ x ∈ bs', 0 ≤ x ∧ x < 256) ∧ bs'.length ≤ bs.length + 1 ∧ Below w.heap.size w w' := by
  obtain ⟨i0, hi, hz0, hz1, hz2⟩ := info_parts info_u8
  obtain ⟨W1, hW1⟩ : ∃ W1, W1 = w.alloc (.cells #[] 5) := ⟨_, rfl⟩
  have HF := Lib.hid (fun x Z => vcut_fin hW1 x Z 5)
  by_cases hge : bs.length ≤ n
  · have HW1 := Lib.hid hW1
    have hAn : A = none → bs.length = 0 := fun e => by
      cases bs with
      | nil => rfl
      | cons x r => obtain ⟨b, o, e', _⟩ := hA 0 (.int .u8 x) rfl; rw [e] at e'; cases e'
    generalize bs.length = m at *
    clear hA hW1 hrng
    cases A with
    | none =>
      obtain rfl : m = 0 := hAn rfl
      by_cases hlt : 0 < n
      · have hlt' : (0 : Int) < (n : Int) := by omega
        go_enter Tryz.func31, Tryz.ntmps31
        go_wp2_with fail
        go_ret
        rw [← HW1.out]
        exact ⟨_, _, [0], rfl, (HF.out 0 _).1, (fun y hy => by simp at hy; subst hy; omega), by simp, (HF.out 0 _).2⟩
      · obtain rfl : n = 0 := by omega
        go_enter Tryz.func31, Tryz.ntmps31
        go_wp2_with fail
        go_ret
        rw [← HW1.out]
        exact ⟨_, _, [0], rfl, (HF.out 0 _).1, (fun y hy => by simp at hy; subst hy; omega), by simp, (HF.out 0 _).2⟩
    | some ad =>
      clear hAn
      by_cases hlt : m < n
      · have hlt' : (m : Int) < (n : Int) := by omega
        by_cases hcm : m = c
        · subst hcm
          go_enter Tryz.func31, Tryz.ntmps31
          go_wp2_with fail
          go_ret
          rw [← HW1.out]
          exact ⟨_, _, [(m : Int)], rfl, (HF.out (m : Int) _).1, (fun y hy => by simp at hy; subst hy; omega), by simp, (HF.out (m : Int) _).2⟩
        · have hcm' : ¬ (m : Int) = (c : Int) := by omega
          have hc' : (m : Int) ≤ (c : Int) := by omega
          go_enter Tryz.func31, Tryz.ntmps31
          go_wp2_with fail
          all_goals
            go_ret
            rw [← HW1.out]
            exact ⟨_, _, [(m : Int)], rfl, (HF.out (m : Int) _).1, (fun y hy => by simp at hy; subst hy; omega), by simp, (HF.out (m : Int) _).2⟩
      · obtain rfl : m = n := by omega
        by_cases hcm : m = c
        · subst hcm
          go_enter Tryz.func31, Tryz.ntmps31
          go_wp2_with fail
          go_ret
          rw [← HW1.out]
          exact ⟨_, _, [(m : Int)], rfl, (HF.out (m : Int) _).1, (fun y hy => by simp at hy; subst hy; omega), by simp, (HF.out (m : Int) _).2⟩
        · have hcm' : ¬ (m : Int) = (c : Int) := by omega
          have hc' : (m : Int) ≤ (c : Int) := by omega
          go_enter Tryz.func31, Tryz.ntmps31
          go_wp2_with fail
          all_goals
            go_ret
            rw [← HW1.out]
            exact ⟨_, _, [(m : Int)], rfl, (HF.out (m : Int) _).1, (fun y hy => by simp at hy; subst hy; omega), by simp, (HF.out (m : Int) _).2⟩
  have hgt : n < bs.length := by omega
  have hlt' : ¬ (bs.length : Int) < (n : Int) := by omega
  have hn1 : (n : Int) < (bs.length : Int) := by omega
  have hn2 : (n : Int) < (c : Int) := by omega
  have hcn : ¬ n = c := by omega
  obtain ⟨ad, rfl⟩ : ∃ ad, A = some ad := by
    cases bs with
    | nil => simp at hgt
    | cons x r => obtain ⟨b, o, e', _⟩ := hA 0 (.int .u8 x) rfl; exact ⟨_, e'⟩
  have hb1 : Below w.heap.size w W1 := by rw [hW1]; exact (Below.refl _ _).alloc (Nat.le_refl _) _
  have HO1 := Lib.hid (show W1.ownsRow w.heap.size 5 1 (.slice (some ⟨w.heap.size, 0, none⟩) 0 0) 0 [] by rw [hW1]; exact World.ownsRow_made w #[] 0 (Nat.le_refl _) (Nat.zero_le _) rfl)
  have HB1 := Lib.hid hb1
  have hs1 : W1.heap.size = w.heap.size + 1 := by rw [hW1]; simp
  have HCC := Lib.hid (show ∀ j u, (u8s (bs.drop n))[j]? = some u → W1.cell? ((ad.add n).add j) = some u from fun j u hj => by
    have hj' : (u8s bs)[n + j]? = some u := by
      have e : u8s (bs.drop n) = (u8s bs).drop n := by simp [u8s, List.map_drop]
      rw [e, List.getElem?_drop] at hj; exact hj
    obtain ⟨b, o, e, h⟩ := (hA.below hb1) _ _ hj'
    cases e
    rw [Addr.add_lit, Addr.add_lit, Nat.add_assoc]; exact h)
  have HW1 := Lib.hid hW1
  clear hW1 hb1 hA hge
  go_enter Tryz.func31, Tryz.ntmps31
  have e0 : (bs.drop n).length ≤ 1000000 := by simp; omega
  have e1 : (bs.drop n).length ≤ bs.length := by simp
  have HE := Lib.hid (show ∀ x ∈ bs.drop n, 0 ≤ x ∧ x < 256 from fun x hx => hrng x (List.mem_of_mem_drop hx))
  have HLE := Lib.hid (show bs.length - n = (bs.drop n).length by simp)
  generalize bs.drop n = r at *
  go_wp2_with (first
    | (at_builtin; refine wpList_append_own _ rfl (.tmp 11) (.tmp 14) 22 rfl w.heap.size 5 i0 (.int .u8 0) 1 1 Tryz.underlying22 hi hz0 hz1 hz2 rfl (by decide) _ _ _ rfl (HW1.out ▸ HO1.out) (ad.add n) (bs.length - n) (c - n) (u8s r) rfl (by simp [HLE.out]) (HW1.out ▸ HCC.out) (u8s_one _) (by unfold maxLen; omega) (by omega) (by rw [← HW1.out]; omega) ?_; intro v2 w2 hown2 hgrow2 _; rw [← HW1.out] at hgrow2; rw [show 0 + (bs.length - n) = r.length by rw [HLE.out]; omega, List.nil_append] at hown2; have hb2 := HB1.out.grown hgrow2 HB1.out.size (fun q hq => (HO1.out.lt q hq).1); have HO2 := Lib.hid hown2; have HB2 := Lib.hid hb2; have hs2 := hb2.size; clear hown2 hgrow2 hb2; have hb3 := (Below.refl w2.heap.size w2).alloc (Nat.le_refl _) (.cells #[.int .u8 (n : Int)] 5); have HB3 := Lib.hid (HB2.out.trans (hb3.mono HB2.out.size)); have HO3 := Lib.hid (HO2.out.alloc (.cells #[.int .u8 (n : Int)] 5)); have HC3 := Lib.hid (heap_alloc_new w2 (.cells #[.int .u8 (n : Int)] 5)); clear hb3)
    | (at_builtin; refine wpList_append_own _ rfl (.tmp 15) (.tmp 18) 22 rfl w.heap.size 5 i0 (.int .u8 0) 1 1 Tryz.underlying22 hi hz0 hz1 hz2 rfl (by decide) _ _ _ rfl HO3.out ⟨w2.heap.size, 0, none⟩ 1 1 [.int .u8 (n : Int)] rfl rfl (fun j' u' hj' => by match j', hj' with | 0, hj' => (simp at hj'; subst hj'; exact cell_of_row _ w2.heap.size _ _ _ _ HC3.out)) (fun u' hu' => by simp at hu'; subst hu'; rfl) (by unfold maxLen; omega) (by omega) (by simp; omega) ?_; intro v4 w4 hown4 hgrow4 _)
    | fail)
  have hb4 := HB3.out.grown hgrow4 HB3.out.size (fun q hq => (HO2.out.lt q hq).1)
  have hown4' : w4.ownsRow w.heap.size 5 1 v4 (r ++ [(n : Int)]).length (u8s (r ++ [(n : Int)])) := by simpa [u8s] using hown4
  obtain ⟨A', c', e4, h5⟩ := owns_form hown4'
  go_ret
  refine ⟨A', c', r ++ [(n : Int)], by rw [← e4]; rfl, Cells.of_owns h5, (fun y hy => by rcases List.mem_append.1 hy with h | h; exact HE.out y h; simp at h; subst h; omega), by simp; omega, hb4⟩

end Go.Proofs.YtdgnhfhaaghoaaaGreatDoor

set_option linter.unusedVariables false
namespace Go.Proofs.YtdgnhfhaaghoaaaGreatDoor
open Go.RowKit

set_option maxHeartbeats 1000000 in
theorem vIntsQ_any (A B : Option Addr) (c d : Nat) (xs : List Int) (w : World) (n : Nat) (hn : xs.length ≤ 16777216) (hA : Cells w A (ints xs)) (hB : Cells w B (ints xs)) :
    Calls Tryz.prog 13 #[.slice A xs.length c, .slice B xs.length d] (w.drewN n) fun e w' => e = .returned (.bool true) ∧ ∃ m, w' = w.drewN m := by
  have hl'' : ((xs.length : Int) != (xs.length : Int)) = false := by simp
  have HA := Lib.hid hA
  have HB := Lib.hid hB
  clear hA hB
  go_enter Tryz.func13, Tryz.ntmps13
  go_wp2
  go_loopw [5] (fun i wr => ∃ k m : Nat, k ≤ xs.length ∧ i = .int .i64 k ∧ wr = w.drewN m)
    (fun i _ => xs.length - (intOf i).toNat)
  case atStart => exact ⟨0, n, Nat.zero_le _, rfl, rfl⟩
  case round =>
    obtain ⟨k, m, hk, rfl, rfl⟩ := hrel
    by_cases hlt : k < xs.length
    · obtain ⟨b, o, rfl, hc⟩ := HA.out.int hlt
      have hck := hc k hlt
      obtain ⟨b', o', rfl, hc'⟩ := HB.out.int hlt
      have hck' := hc' k hlt
      clear hc hc'
      obtain ⟨x, ex⟩ : ∃ x, x = xs.getD k 0 := ⟨_, rfl⟩
      have hb0 : (x != x) = false := by simp
      rw [← ex] at hck hck'
      clear ex
      go_wp2
      go_quiet (fail)
      go_wp2
      go_roundw
      case rel => exact ⟨k + 1, _, by omega, by go_num, rfl⟩
      case measure => simp [intOf]; omega
    · obtain rfl : k = xs.length := by omega
      go_wp2
      go_ret
      exact ⟨rfl, m, rfl⟩

theorem rss_at {w : World} {A : Option Addr} {n c k : Nat} {xss : List (List Int)} (h : RSS w (.slice A n c) xss) (hk : k < xss.length) : ∃ b o A1 c1, A = some ⟨b, o, none⟩ ∧ w.cell? ⟨b, o + k, none⟩ = some (.slice A1 (xss.getD k []).length c1) ∧ Cells w A1 (ints (xss.getD k [])) := by
  obtain ⟨A', c', vs, e, hm, hl, hc, hi⟩ := h
  cases e
  obtain ⟨u, hu⟩ : ∃ u, vs[k]? = some u := ⟨_, List.getElem?_eq_getElem (by omega)⟩
  obtain ⟨b, o, e1, h1⟩ := hc k u hu
  have e2 : xss.getD k [] = xss[k] := by simp [List.getD, hk]
  obtain ⟨A1, c1, e3, _, h3⟩ := hi k u xss[k] hu (List.getElem?_eq_getElem hk)
  subst e3
  exact ⟨b, o, A1, c1, e1, by rw [e2]; exact h1, by rw [e2]; exact h3⟩

set_option maxHeartbeats 1000000 in
theorem vTableQ_any (A B : Option Addr) (c d : Nat) (xss : List (List Int)) (w : World) (n : Nat) (hn : xss.length ≤ 16777216) (hs : Small xss) (hA : RSS w (.slice A xss.length c) xss) (hB : RSS w (.slice B xss.length d) xss) :
    Calls Tryz.prog 96 #[.slice A xss.length c, .slice B xss.length d] (w.drewN n) fun e w' => e = .returned (.bool true) ∧ ∃ m, w' = w.drewN m := by
  have hl'' : ((xss.length : Int) != (xss.length : Int)) = false := by simp
  have HA := Lib.hid hA
  have HB := Lib.hid hB
  have HS := Lib.hid hs
  clear hA hB hs
  go_enter Tryz.func96, Tryz.ntmps96
  go_wp2
  go_loopw [5] (fun i wr => ∃ k m : Nat, k ≤ xss.length ∧ i = .int .i64 k ∧ wr = w.drewN m)
    (fun i _ => xss.length - (intOf i).toNat)
  case atStart => exact ⟨0, n, Nat.zero_le _, rfl, rfl⟩
  case round =>
    obtain ⟨k, m, hk, rfl, hwr⟩ := hrel
    by_cases hlt : k < xss.length
    · have hra : RSS wr (.slice A xss.length c) xss := by rw [hwr]; exact HA.out
      have hrb : RSS wr (.slice B xss.length d) xss := by rw [hwr]; exact HB.out
      obtain ⟨b, o, A1, c1, rfl, hck, h1⟩ := rss_at hra hlt
      obtain ⟨b', o', B1, d1, rfl, hck', h2⟩ := rss_at hrb hlt
      have HWR := Lib.hid hwr
      clear hwr hra hrb
      have hxn : (xss.getD k []).length ≤ 16777216 := HS.out _ (by simp [List.getD, hlt])
      have HQ := Lib.hid (fun n => vIntsQ_any A1 B1 c1 d1 (xss.getD k []) wr n hxn h1 h2)
      generalize xss.getD k [] = xs at *
      clear h1 h2
      go_wp2
      go_quiet (with_reducible exact HQ.out _)
      go_wp2
      go_roundw
      case rel => exact ⟨k + 1, m + nq, by omega, by go_num, by rw [HWR.out, World.drewN_drewN]⟩
      case measure => simp [intOf]; omega
    · obtain rfl : k = xss.length := by omega
      go_wp2
      go_ret
      exact ⟨rfl, m, by first | rfl | exact hwr⟩

set_option maxHeartbeats 2000000 in
theorem vSteps3Q_any (A B : Option Addr) (c d : Nat) (l : List I3) (w : World) (n : Nat) (hn : l.length ≤ 16777216) (hA : Cells w A (l.flatMap tri)) (hB : Cells w B (l.flatMap tri)) :
    Calls Tryz.prog 97 #[.slice A l.length c, .slice B l.length d] (w.drewN n) fun e w' => e = .returned (.bool true) ∧ ∃ m, w' = w.drewN m := by
  have hl'' : ((l.length : Int) != (l.length : Int)) = false := by simp
  have HA := Lib.hid hA
  have HB := Lib.hid hB
  clear hA hB
  go_enter Tryz.func97, Tryz.ntmps97
  go_wp2
  go_loopw [5] (fun i wr => ∃ k m : Nat, k ≤ l.length ∧ i = .int .i64 k ∧ wr = w.drewN m)
    (fun i _ => l.length - (intOf i).toNat)
  case atStart => exact ⟨0, n, Nat.zero_le _, rfl, rfl⟩
  case round =>
    obtain ⟨k, m, hk, rfl, hwr⟩ := hrel
    by_cases hlt : k < l.length
    · have hra : RA3 wr (.slice A l.length c) l := by rw [hwr]; exact ⟨A, c, rfl, by unfold maxLen; omega, HA.out⟩
      have hrb : RA3 wr (.slice B l.length d) l := by rw [hwr]; exact ⟨B, d, rfl, by unfold maxLen; omega, HB.out⟩
      obtain ⟨b, o, c', ev, hc0, hc1, hc2⟩ := hra.at_ (List.getElem?_eq_getElem hlt)
      obtain ⟨b', o', d', eu, hd0, hd1, hd2⟩ := hrb.at_ (List.getElem?_eq_getElem hlt)
      cases ev
      cases eu
      have HWR := Lib.hid hwr
      clear hwr hra hrb
      generalize l[k] = x at *
      obtain ⟨x1, x2, x3⟩ := x
      dsimp only at hc0 hc1 hc2 hd0 hd1 hd2
      have EQ := eqT3 x1 x2 x3 x1 x2 x3
      rw [show (x1 == x1 && x2 == x2 && x3 == x3) = true by simp] at EQ
      go_wp2
      go_quiet (fail)
      go_wp2
      go_roundw
      case rel => exact ⟨k + 1, m + nq, by omega, by go_num, by rw [HWR.out, World.drewN_drewN]⟩
      case measure => simp [intOf]; omega
    · obtain rfl : k = l.length := by omega
      go_wp2
      go_ret
      exact ⟨rfl, m, by first | rfl | exact hwr⟩

set_option maxHeartbeats 2000000 in
/-- vLabelled at equal systems. -/
theorem vLabelled_same (v u : Value) (l : Lab) (w : World) (hs : SmallLab l) (hv : RLab w v l) (hu : RLab w u l) :
    Calls Tryz.prog 41 #[v, u] w fun e w' => e = .returned (.bool true) ∧ Below w.heap.size w w' := by
  obtain ⟨sv, tv, rfl, hsv, htv⟩ := hv
  obtain ⟨su, tu, rfl, hsu, htu⟩ := hu
  obtain ⟨W0, hW0⟩ : ∃ W0, W0 = (w.alloc (.cells #[sv, tv] 27)).alloc (.cells #[su, tu] 27) := ⟨_, rfl⟩
  have hb0 : Below w.heap.size w W0 := by rw [hW0]; exact ((Below.refl _ _).alloc (Nat.le_refl _) _).alloc (by simp) _
  have q0 : W0.heap[w.heap.size]? = some (.cells #[sv, tv] 27) := by rw [hW0]; exact (heap_alloc_old _ _ (by simp)).trans (heap_alloc_new _ _)
  have q1 : W0.heap[w.heap.size + 1]? = some (.cells #[su, tu] 27) := by
    rw [hW0]
    have h := heap_alloc_new (w.alloc (.cells #[sv, tv] 27)) (.cells #[su, tu] 27)
    rw [World.size_alloc] at h; exact h
  have hsv := hsv.below hb0
  have hsu := hsu.below hb0
  have htv := htv.below hb0
  have htu := htu.below hb0
  obtain ⟨A1, c1, v1, rfl, h1⟩ : ∃ A c vs, sv = .slice A l.shows.length c ∧ RSS W0 (.slice A l.shows.length c) l.shows := by obtain ⟨A, c, vs, e, r⟩ := hsv; subst e; exact ⟨A, c, vs, rfl, A, c, vs, rfl, r⟩
  obtain ⟨A2, c2, v2, rfl, h2⟩ : ∃ A c vs, su = .slice A l.shows.length c ∧ RSS W0 (.slice A l.shows.length c) l.shows := by obtain ⟨A, c, vs, e, r⟩ := hsu; subst e; exact ⟨A, c, vs, rfl, A, c, vs, rfl, r⟩
  obtain ⟨A3, c3, rfl, _, h3⟩ := htv
  obtain ⟨A4, c4, rfl, _, h4⟩ := htu
  have s0 := cell_of_row _ _ 0 _ _ _ q0
  have s1 := cell_of_row _ _ 1 _ _ _ q0
  have s2 := cell_of_row _ _ 0 _ _ _ q1
  have s3 := cell_of_row _ _ 1 _ _ _ q1
  have H1 := Lib.hid (fun n => vTableQ_any A1 A2 c1 c2 l.shows W0 n hs.1 hs.2.2 h1 h2)
  have H2 := Lib.hid (fun n => vSteps3Q_any A3 A4 c3 c4 l.steps W0 n hs.2.1 h3 h4)
  have HB0 := Lib.hid hb0
  have HW0 := Lib.hid hW0
  clear h1 h2 h3 h4 q0 q1 hsv hsu hb0 hW0 hs
  go_enter Tryz.func41, Tryz.ntmps41
  go_wp2_with fail
  rw [← HW0.out]
  have HQ1 : Calls Tryz.prog 96 #[.slice A1 l.shows.length c1, .slice A2 l.shows.length c2] W0 _ := H1.out 0
  (with_reducible refine HQ1.mono ?_)
  rintro e w1 ⟨rfl, m, rfl⟩
  clear HQ1
  go_wp2_with fail
  (with_reducible refine (H2.out m).mono ?_)
  rintro e w2 ⟨rfl, m2, rfl⟩
  go_wp2_with fail
  go_ret
  exact ⟨rfl, below_drewN' HB0.out _⟩

end Go.Proofs.YtdgnhfhaaghoaaaGreatDoor
