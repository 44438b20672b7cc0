/- A number put to its place in an ascending list, once: the reference walked. -/
import Derived.Test.YtdgnhfhaaghoaaaGreatDoorProg
import Derived.Test.YtdgnhfhaaghoaaaGreatDoorJ9
import Derived.Test.YtdgnhfhaaghoaaaGreatDoorJ10
import Derived.Test.YtdgnhfhaaghoaaaGreatDoorJ6
import Derived.Test.YtdgnhfhaaghoaaaGreatDoorJ3
import Derived.Deep.RegionHeld3
set_option linter.unusedSimpArgs false
set_option linter.unusedVariables false
namespace Go.Proofs.YtdgnhfhaaghoaaaGreatDoor
open Go.RowKit

theorem tw_take {x : Int} : ∀ {l : List Int} {k : Nat}, (∀ j, j < k → l.getD j 0 < x) → k ≤ l.length → (k < l.length → x ≤ l.getD k 0) → l.takeWhile (fun y => decide (y < x)) = l.take k ∧ l.dropWhile (fun y => decide (y < x)) = l.drop k
  | [], k, _, hk, _ => by
    obtain rfl : k = 0 := by simpa using hk
    simp
  | y :: l, 0, _, _, h => by
    have := h (by simp)
    have : x ≤ y := by simpa using this
    simp [List.takeWhile_cons, List.dropWhile_cons, show ¬ y < x by omega]
  | y :: l, k + 1, hj, hk, h => by
    have h0 := hj 0 (by omega)
    have h0 : y < x := by simpa using h0
    have ih := tw_take (x := x) (l := l) (k := k) (fun j hjk => by simpa using hj (j + 1) (by omega)) (by simpa using hk) (fun hl => by simpa using h (by simpa using hl))
    simp [List.takeWhile_cons, List.dropWhile_cons, h0, ih.1, ih.2]
theorem put_at {x : Int} {l : List Int} {k : Nat} (hp : l.Pairwise (· < ·)) (hj : ∀ j, j < k → l.getD j 0 < x) (hk : k ≤ l.length) (h : k < l.length → x ≤ l.getD k 0) :
    putI l x = if k < l.length ∧ l.getD k 0 = x then l else l.take k ++ x :: l.drop k := by
  obtain ⟨h1, h2⟩ := tw_take hj hk h
  unfold putI
  rw [h1, h2]
  split
  · rename_i hc
    split
    · rfl
    · rename_i hn
      exfalso
      have hm : x ∈ l := by simpa using hc
      obtain ⟨j, hjl, e⟩ := List.getElem_of_mem hm
      have ej : l.getD j 0 = x := by simp [List.getD, hjl, e]
      by_cases hjk : j < k
      · have := hj j hjk; omega
      · have hkl : k < l.length := by omega
        have hkx := h hkl
        by_cases e2 : j = k
        · subst e2; exact hn ⟨hkl, ej⟩
        · have hlt := (List.pairwise_iff_getElem.1 hp) k j hkl hjl (by omega)
          have ek : l.getD k 0 = l[k] := by simp [List.getD, hkl]
          omega
  · rename_i hc
    split
    · rename_i hn
      exfalso
      apply hc
      have : l.getD k 0 ∈ l := getD_mem hn.1
      rw [hn.2] at this
      simpa using this
    · rfl

theorem cells_take {w : World} {b o : Nat} {l : List Int} (h : ∀ j, j < l.length → w.cell? ⟨b, o + j, none⟩ = some (.int .i64 (l.getD j 0))) (k : Nat) : ∀ j u, (ints (l.take k))[j]? = some u → w.cell? ((⟨b, o, none⟩ : Addr).add j) = some u := by
  intro j u hj
  have hjl : j < (l.take k).length := by have := (List.getElem?_eq_some_iff.1 hj).1; simpa [ints] using this
  rw [List.length_take] at hjl
  rw [Addr.add_lit, h j (by omega), ← hj, getElem?_ints _ _ (by rw [List.length_take]; omega)]
  simp [List.getD, List.getElem?_take, show j < k by omega]
theorem cells_drop {w : World} {b o : Nat} {l : List Int} (h : ∀ j, j < l.length → w.cell? ⟨b, o + j, none⟩ = some (.int .i64 (l.getD j 0))) (k : Nat) : ∀ j u, (ints (l.drop k))[j]? = some u → w.cell? ((⟨b, o + k, none⟩ : Addr).add j) = some u := by
  intro j u hj
  have hjl : j < (l.drop k).length := by have := (List.getElem?_eq_some_iff.1 hj).1; simpa [ints] using this
  rw [List.length_drop] at hjl
  rw [Addr.add_lit, Nat.add_assoc, h (k + j) (by omega), ← hj, getElem?_ints _ _ (by rw [List.length_drop]; omega)]
  simp [List.getD, List.getElem?_drop]

theorem news_below {w w' : World} {ad : Addr} {cs : List Value} (h : ∀ j u, cs[j]? = some u → w.cell? (ad.add j) = some u) (hb : Below w.heap.size w w') : ∀ j u, cs[j]? = some u → w'.cell? (ad.add j) = some u :=
  fun j u hj => cell_below hb (h j u hj) (lt_of_cell (h j u hj))
theorem news_grown {w w' : World} {g o : Nat} {cs : List Value} {row : Option Nat} (hg : w.grownBy w' row) (h : ∀ j u, cs[j]? = some u → w.cell? ((⟨g, o, none⟩ : Addr).add j) = some u) (hne : row ≠ some g) : ∀ j u, cs[j]? = some u → w'.cell? ((⟨g, o, none⟩ : Addr).add j) = some u := by
  intro j u hj
  have hc := h j u hj
  rw [Addr.add_lit] at hc ⊢
  exact (World.cell?_of_block (a := ⟨g, o + j, none⟩) (hg.block g (lt_of_cell hc) (fun e => hne e.symm))).trans hc
set_option maxRecDepth 100000 in
set_option maxHeartbeats 4000000 in
theorem l1Put_any (b c : Nat) (l : List Int) (x : Int) (w : World) (hn : l.length ≤ 1000000) (hc : l.length ≤ c) (hp : l.Pairwise (· < ·)) (hA : Cells w (some ⟨b, 0, none⟩) (ints l)) :
    Calls Tryz.prog 164 #[.slice (some ⟨b, 0, none⟩) l.length c, .int .i64 x] w fun e w' => ∃ r, e = .returned r ∧ ((r = .slice (some ⟨b, 0, none⟩) l.length c ∧ putI l x = l) ∨ w'.ownsRow w.heap.size 3 1 r (putI l x).length (ints (putI l x))) ∧ Below w.heap.size w w' := by
  obtain ⟨i0, hi, hz0, hz1, hz2⟩ := info_parts info_ci
  have HA := Lib.hid hA
  have HP := Lib.hid (fun k h1 h2 h3 => put_at (x := x) (l := l) (k := k) hp h1 h2 h3)
  clear hA hp
  go_enter Tryz.func164, Tryz.ntmps164
  go_wp2_with fail
  go_loop [5] (fun i => ∃ k : Nat, k ≤ l.length ∧ i = .int .i64 k ∧ ∀ j, j < k → l.getD j 0 < x) (fun i => l.length - (intOf i).toNat)
  case atStart => exact ⟨0, Nat.zero_le _, rfl, fun j hj => by omega⟩
  case round =>
    obtain ⟨k, hk, rfl, hall⟩ := hrel
    have HALL := Lib.hid hall
    clear hall
    by_cases hlt : k < l.length
    · obtain ⟨b', o', e, hcl⟩ := HA.out.int hlt
      cases e
      have ck := hcl k hlt
      rw [Nat.zero_add] at ck
      have HCL := Lib.hid hcl
      clear hcl
      by_cases hx : l.getD k 0 < x
      · have HN := Lib.hid (show ∀ j, j < k + 1 → l.getD j 0 < x from fun j hj => by
          rcases Nat.lt_succ_iff_lt_or_eq.1 hj with h' | h'
          · exact HALL.out j h'
          · rw [h']; exact hx)
        generalize l.getD k 0 = y at *
        go_wp2_with fail
        go_round
        case rel => exact ⟨k + 1, by omega, by go_num, HN.out⟩
        case measure => simp [intOf]; omega
      · have hput := HP.out k HALL.out (by omega) (fun _ => by omega)
        by_cases he : l.getD k 0 = x
        · rw [if_pos ⟨hlt, he⟩] at hput
          have HPUT := Lib.hid hput
          clear hput hx
          generalize l.getD k 0 = y at *
          subst he
          go_wp2_with fail
          go_ret
          exact ⟨_, rfl, .inl ⟨rfl, HPUT.out⟩, Below.refl _ _⟩
        · rw [if_neg (fun h => he h.2)] at hput
          have HPUT := Lib.hid hput
          have hne : (l.getD k 0 == x) = false := by simpa using he
          have HT := Lib.hid (cells_take HCL.out k)
          have hcd := cells_drop HCL.out k
          rw [Nat.zero_add] at hcd
          have HD := Lib.hid hcd
          clear hcd
          clear hput he
          generalize l.getD k 0 = y at *
          have b0 : (0 : Int) ≤ (k : Int) := by omega
          have b1 : (k : Int) < (l.length : Int) := by omega
          have b2 : (k : Int) ≤ (c : Int) := by omega
          have b3 : (k : Int) ≤ (l.length : Int) := by omega
          have hkc : ¬ c = k := by omega
          have hkd : ¬ k = c := by omega
          have hke : ((k : Int) == (c : Int)) = false := by rw [beq_eq_false_iff_ne]; omega
          have hkc : ¬ c = k := by omega
          go_wp2_with fail
          have hA1 : Below w.heap.size w (w.alloc (.cells #[] 3)).drew := ((Below.refl _ w).alloc (Nat.le_refl _) _).drew
          have ho0 : (w.alloc (.cells #[] 3)).drew.ownsRow w.heap.size 3 1 (.slice (some ⟨w.heap.size, 0, none⟩) 0 0) 0 [] := made_row w 3
          have hA2 : Below w.heap.size w ((w.alloc (.cells #[] 3)).alloc (.cells #[.int .i64 x] 3)).drew := (((Below.refl _ w).alloc (Nat.le_refl _) _).alloc (by simp) _).drew
          have ho1 : ((w.alloc (.cells #[] 3)).alloc (.cells #[.int .i64 x] 3)).drew.ownsRow w.heap.size 3 1 (.slice (some ⟨w.heap.size, 0, none⟩) 0 0) 0 [] := (made_row w 3).alloc _
          have hcx : ∀ j u, [Value.int .i64 x][j]? = some u → ((w.alloc (.cells #[] 3)).alloc (.cells #[.int .i64 x] 3)).drew.cell? ((⟨w.heap.size + 1, 0, none⟩ : Addr).add j) = some u := new_cell1 (w.alloc (.cells #[] 3)) (.int .i64 x) 3 (n := w.heap.size + 1) (by simp)
          have hA3 : Below w.heap.size w ((w.alloc (.cells #[.int .i64 x] 3)).alloc (.cells #[] 3)).drew := (((Below.refl _ w).alloc (Nat.le_refl _) _).alloc (by simp) _).drew
          have ho2 : ((w.alloc (.cells #[.int .i64 x] 3)).alloc (.cells #[] 3)).drew.ownsRow w.heap.size 3 1 (.slice (some ⟨w.heap.size + 1, 0, none⟩) 0 0) 0 [] := by
            have h := made_row (w.alloc (.cells #[.int .i64 x] 3)) 3
            rw [World.size_alloc] at h
            exact owns_mono h (Nat.le_succ _)
          have hcy : ∀ j u, [Value.int .i64 x][j]? = some u → ((w.alloc (.cells #[.int .i64 x] 3)).alloc (.cells #[] 3)).drew.cell? ((⟨w.heap.size, 0, none⟩ : Addr).add j) = some u := news_below (w := w.alloc (.cells #[.int .i64 x] 3)) (new_cell1 w (.int .i64 x) 3 rfl) ((Below.refl _ _).alloc (Nat.le_refl _) _).drew
          go_region_held3 (fun _ => True) (exact True.intro)
            (first
              | (refine step_append_own rfl (.tmp 33) (.tmp 36) 30 rfl w.heap.size 3 i0 (.int .i64 0) 1 8 Tryz.underlying30 hi hz0 hz1 hz2 rfl (by decide) _ 0 [] rfl ho0 ⟨b, 0, none⟩ k c (ints (l.take k)) rfl ?g1 ?g2 ?g3 ?g4 ?g5 ?g6 ?_; (case g1 => rw [ints, List.length_map, List.length_take]; omega); (case g2 => exact news_below HT.out hA1); (case g3 => exact ints_one _); (case g4 => unfold maxLen; omega); (case g5 => omega); (case g6 => exact hA1.size); intro v1 w1 hown1 hgrow1 _; have hb1 : Below w.heap.size w w1 := hA1.grown hgrow1 hA1.size (fun q hq => (ho0.lt q hq).1))
              | (refine step_append_own rfl (.tmp 33) (.tmp 36) 30 rfl w.heap.size 3 i0 (.int .i64 0) 1 8 Tryz.underlying30 hi hz0 hz1 hz2 rfl (by decide) _ 0 [] rfl ho1 ⟨b, 0, none⟩ k c (ints (l.take k)) rfl ?g1 ?g2 ?g3 ?g4 ?g5 ?g6 ?_; (case g1 => rw [ints, List.length_map, List.length_take]; omega); (case g2 => exact news_below HT.out hA2); (case g3 => exact ints_one _); (case g4 => unfold maxLen; omega); (case g5 => omega); (case g6 => exact hA2.size); intro v1 w1 hown1 hgrow1 _; have hb1 : Below w.heap.size w w1 := hA2.grown hgrow1 hA2.size (fun q hq => (ho1.lt q hq).1))
              | (refine step_append_own rfl (.tmp 33) (.tmp 36) 30 rfl w.heap.size 3 i0 (.int .i64 0) 1 8 Tryz.underlying30 hi hz0 hz1 hz2 rfl (by decide) _ 0 [] rfl ho2 ⟨b, 0, none⟩ k c (ints (l.take k)) rfl ?g1 ?g2 ?g3 ?g4 ?g5 ?g6 ?_; (case g1 => rw [ints, List.length_map, List.length_take]; omega); (case g2 => exact news_below HT.out hA3); (case g3 => exact ints_one _); (case g4 => unfold maxLen; omega); (case g5 => omega); (case g6 => exact hA3.size); intro v1 w1 hown1 hgrow1 _; have hb1 : Below w.heap.size w w1 := hA3.grown hgrow1 hA3.size (fun q hq => (ho2.lt q hq).1))
              | (refine step_append_own rfl (.tmp 37) (.tmp 39) 30 rfl w.heap.size 3 i0 (.int .i64 0) 1 8 Tryz.underlying30 hi hz0 hz1 hz2 rfl (by decide) _ (0 + k) _ rfl (hown1.alloc _) ⟨w1.heap.size, 0, none⟩ 1 1 [.int .i64 x] rfl rfl ?g2 ?g3 ?g4 ?g5 ?g6 ?_; (case g2 => exact new_cell1 w1 _ _ rfl); (case g3 => simp [Value.oneCell']); (case g4 => unfold maxLen; omega); (case g5 => omega); (case g6 => exact (hb1.alloc hb1.size _).size); intro v2 w2 hown2 hgrow2 _; have hb2 : Below w.heap.size w w2 := (hb1.alloc hb1.size _).grown hgrow2 (hb1.alloc hb1.size _).size (fun q hq => (hown1.lt q hq).1))
              | (refine step_append_own rfl (.tmp 37) (.tmp 39) 30 rfl w.heap.size 3 i0 (.int .i64 0) 1 8 Tryz.underlying30 hi hz0 hz1 hz2 rfl (by decide) _ (0 + k) _ rfl hown1 ⟨w.heap.size + 1, 0, none⟩ 1 1 [.int .i64 x] rfl rfl ?g2 ?g3 ?g4 ?g5 ?g6 ?_; (case g2 => exact news_grown hgrow1 hcx (by show some w.heap.size ≠ some (w.heap.size + 1); simp)); (case g3 => simp [Value.oneCell']); (case g4 => unfold maxLen; omega); (case g5 => omega); (case g6 => exact hb1.size); intro v2 w2 hown2 hgrow2 _; have hb2 : Below w.heap.size w w2 := hb1.grown hgrow2 hb1.size (fun q hq => (hown1.lt q hq).1))
              | (refine step_append_own rfl (.tmp 37) (.tmp 39) 30 rfl w.heap.size 3 i0 (.int .i64 0) 1 8 Tryz.underlying30 hi hz0 hz1 hz2 rfl (by decide) _ (0 + k) _ rfl hown1 ⟨w.heap.size, 0, none⟩ 1 1 [.int .i64 x] rfl rfl ?g2 ?g3 ?g4 ?g5 ?g6 ?_; (case g2 => exact news_grown hgrow1 hcy (by show some (w.heap.size + 1) ≠ some w.heap.size; simp)); (case g3 => simp [Value.oneCell']); (case g4 => unfold maxLen; omega); (case g5 => omega); (case g6 => exact hb1.size); intro v2 w2 hown2 hgrow2 _; have hb2 : Below w.heap.size w w2 := hb1.grown hgrow2 hb1.size (fun q hq => (hown1.lt q hq).1))
              | (refine step_append_own rfl (.tmp 40) (.tmp 43) 30 rfl w.heap.size 3 i0 (.int .i64 0) 1 8 Tryz.underlying30 hi hz0 hz1 hz2 rfl (by decide) _ (0 + k + 1) _ rfl hown2 ⟨b, k, none⟩ (l.length - k) _ (ints (l.drop k)) rfl ?g1 ?g2 ?g3 ?g4 ?g5 ?g6 ?_; (case g1 => rw [ints, List.length_map, List.length_drop, Nat.mul_one]); (case g2 => exact news_below HD.out hb2); (case g3 => exact ints_one _); (case g4 => unfold maxLen; omega); (case g5 => omega); (case g6 => exact hb2.size); intro v3 w3 hown3 hgrow3 _; have hb3 : Below w.heap.size w w3 := hb2.grown hgrow3 hb2.size (fun q hq => (hown2.lt q hq).1))
              | fail)
          all_goals
            have hl3 : (putI l x).length = 0 + k + 1 + (l.length - k) := by rw [HPUT.out]; simp; omega
            have he3 : ints (putI l x) = [] ++ ints (l.take k) ++ [Value.int .i64 x] ++ ints (l.drop k) := by rw [HPUT.out]; simp [ints]
            have HO := Lib.hid (show w3.ownsRow w.heap.size 3 1 v3 (putI l x).length (ints (putI l x)) by rw [hl3, he3]; exact hown3)
            have HB := Lib.hid hb3
            clear hl3 he3 hown3 hgrow3 hb3 hown2 hgrow2 hb2 hown1 hgrow1 hb1 ho0 hA1 ho1 hA2 hcx ho2 hA3 hcy
            go_wp2_with fail
            go_ret
            exact ⟨_, rfl, .inr HO.out, HB.out⟩
    · obtain rfl : k = l.length := by omega
      have hput := HP.out l.length HALL.out (by omega) (fun h => by omega)
      rw [if_neg (fun h => by omega), List.take_length, List.drop_length] at hput
      have HPUT := Lib.hid hput
      have HT := Lib.hid (cells_add HA.out)
      clear hput
      have b2 : (l.length : Int) ≤ (c : Int) := by omega
      by_cases hkc : c = l.length
      · subst hkc
        go_wp2_with fail
        have hA1 : Below w.heap.size w (w.alloc (.cells #[] 3)).drew := ((Below.refl _ w).alloc (Nat.le_refl _) _).drew
        have ho0 : (w.alloc (.cells #[] 3)).drew.ownsRow w.heap.size 3 1 (.slice (some ⟨w.heap.size, 0, none⟩) 0 0) 0 [] := made_row w 3
        have hA2 : Below w.heap.size w ((w.alloc (.cells #[] 3)).alloc (.cells #[.int .i64 x] 3)).drew := (((Below.refl _ w).alloc (Nat.le_refl _) _).alloc (by simp) _).drew
        have ho1 : ((w.alloc (.cells #[] 3)).alloc (.cells #[.int .i64 x] 3)).drew.ownsRow w.heap.size 3 1 (.slice (some ⟨w.heap.size, 0, none⟩) 0 0) 0 [] := (made_row w 3).alloc _
        have hcx : ∀ j u, [Value.int .i64 x][j]? = some u → ((w.alloc (.cells #[] 3)).alloc (.cells #[.int .i64 x] 3)).drew.cell? ((⟨w.heap.size + 1, 0, none⟩ : Addr).add j) = some u := new_cell1 (w.alloc (.cells #[] 3)) (.int .i64 x) 3 (n := w.heap.size + 1) (by simp)
        have hA3 : Below w.heap.size w ((w.alloc (.cells #[.int .i64 x] 3)).alloc (.cells #[] 3)).drew := (((Below.refl _ w).alloc (Nat.le_refl _) _).alloc (by simp) _).drew
        have ho2 : ((w.alloc (.cells #[.int .i64 x] 3)).alloc (.cells #[] 3)).drew.ownsRow w.heap.size 3 1 (.slice (some ⟨w.heap.size + 1, 0, none⟩) 0 0) 0 [] := by
          have h := made_row (w.alloc (.cells #[.int .i64 x] 3)) 3
          rw [World.size_alloc] at h
          exact owns_mono h (Nat.le_succ _)
        have hcy : ∀ j u, [Value.int .i64 x][j]? = some u → ((w.alloc (.cells #[.int .i64 x] 3)).alloc (.cells #[] 3)).drew.cell? ((⟨w.heap.size, 0, none⟩ : Addr).add j) = some u := news_below (w := w.alloc (.cells #[.int .i64 x] 3)) (new_cell1 w (.int .i64 x) 3 rfl) ((Below.refl _ _).alloc (Nat.le_refl _) _).drew
        go_region_held3 (fun _ => True) (exact True.intro)
          (first
            | (refine step_append_own rfl (.tmp 33) (.tmp 36) 30 rfl w.heap.size 3 i0 (.int .i64 0) 1 8 Tryz.underlying30 hi hz0 hz1 hz2 rfl (by decide) _ 0 [] rfl ho0 ⟨b, 0, none⟩ l.length l.length (ints l) rfl ?g1 ?g2 ?g3 ?g4 ?g5 ?g6 ?_; (case g1 => rw [ints, List.length_map, Nat.mul_one]); (case g2 => exact news_below HT.out hA1); (case g3 => exact ints_one _); (case g4 => unfold maxLen; omega); (case g5 => omega); (case g6 => exact hA1.size); intro v1 w1 hown1 hgrow1 _; have hb1 : Below w.heap.size w w1 := hA1.grown hgrow1 hA1.size (fun q hq => (ho0.lt q hq).1))
            | (refine step_append_own rfl (.tmp 33) (.tmp 36) 30 rfl w.heap.size 3 i0 (.int .i64 0) 1 8 Tryz.underlying30 hi hz0 hz1 hz2 rfl (by decide) _ 0 [] rfl ho1 ⟨b, 0, none⟩ l.length l.length (ints l) rfl ?g1 ?g2 ?g3 ?g4 ?g5 ?g6 ?_; (case g1 => rw [ints, List.length_map, Nat.mul_one]); (case g2 => exact news_below HT.out hA2); (case g3 => exact ints_one _); (case g4 => unfold maxLen; omega); (case g5 => omega); (case g6 => exact hA2.size); intro v1 w1 hown1 hgrow1 _; have hb1 : Below w.heap.size w w1 := hA2.grown hgrow1 hA2.size (fun q hq => (ho1.lt q hq).1))
            | (refine step_append_own rfl (.tmp 33) (.tmp 36) 30 rfl w.heap.size 3 i0 (.int .i64 0) 1 8 Tryz.underlying30 hi hz0 hz1 hz2 rfl (by decide) _ 0 [] rfl ho2 ⟨b, 0, none⟩ l.length l.length (ints l) rfl ?g1 ?g2 ?g3 ?g4 ?g5 ?g6 ?_; (case g1 => rw [ints, List.length_map, Nat.mul_one]); (case g2 => exact news_below HT.out hA3); (case g3 => exact ints_one _); (case g4 => unfold maxLen; omega); (case g5 => omega); (case g6 => exact hA3.size); intro v1 w1 hown1 hgrow1 _; have hb1 : Below w.heap.size w w1 := hA3.grown hgrow1 hA3.size (fun q hq => (ho2.lt q hq).1))
            | (refine step_append_own rfl (.tmp 37) (.tmp 39) 30 rfl w.heap.size 3 i0 (.int .i64 0) 1 8 Tryz.underlying30 hi hz0 hz1 hz2 rfl (by decide) _ (0 + l.length) _ rfl (hown1.alloc _) ⟨w1.heap.size, 0, none⟩ 1 1 [.int .i64 x] rfl rfl ?g2 ?g3 ?g4 ?g5 ?g6 ?_; (case g2 => exact new_cell1 w1 _ _ rfl); (case g3 => simp [Value.oneCell']); (case g4 => unfold maxLen; omega); (case g5 => omega); (case g6 => exact (hb1.alloc hb1.size _).size); intro v2 w2 hown2 hgrow2 _; have hb2 : Below w.heap.size w w2 := (hb1.alloc hb1.size _).grown hgrow2 (hb1.alloc hb1.size _).size (fun q hq => (hown1.lt q hq).1))
            | (refine step_append_own rfl (.tmp 37) (.tmp 39) 30 rfl w.heap.size 3 i0 (.int .i64 0) 1 8 Tryz.underlying30 hi hz0 hz1 hz2 rfl (by decide) _ (0 + l.length) _ rfl hown1 ⟨w.heap.size + 1, 0, none⟩ 1 1 [.int .i64 x] rfl rfl ?g2 ?g3 ?g4 ?g5 ?g6 ?_; (case g2 => exact news_grown hgrow1 hcx (by show some w.heap.size ≠ some (w.heap.size + 1); simp)); (case g3 => simp [Value.oneCell']); (case g4 => unfold maxLen; omega); (case g5 => omega); (case g6 => exact hb1.size); intro v2 w2 hown2 hgrow2 _; have hb2 : Below w.heap.size w w2 := hb1.grown hgrow2 hb1.size (fun q hq => (hown1.lt q hq).1))
            | (refine step_append_own rfl (.tmp 37) (.tmp 39) 30 rfl w.heap.size 3 i0 (.int .i64 0) 1 8 Tryz.underlying30 hi hz0 hz1 hz2 rfl (by decide) _ (0 + l.length) _ rfl hown1 ⟨w.heap.size, 0, none⟩ 1 1 [.int .i64 x] rfl rfl ?g2 ?g3 ?g4 ?g5 ?g6 ?_; (case g2 => exact news_grown hgrow1 hcy (by show some (w.heap.size + 1) ≠ some w.heap.size; simp)); (case g3 => simp [Value.oneCell']); (case g4 => unfold maxLen; omega); (case g5 => omega); (case g6 => exact hb1.size); intro v2 w2 hown2 hgrow2 _; have hb2 : Below w.heap.size w w2 := hb1.grown hgrow2 hb1.size (fun q hq => (hown1.lt q hq).1))
            | (refine step_append_own rfl (.tmp 40) (.tmp 43) 30 rfl w.heap.size 3 i0 (.int .i64 0) 1 8 Tryz.underlying30 hi hz0 hz1 hz2 rfl (by decide) _ (0 + l.length + 1) _ rfl hown2 ⟨b, 0, none⟩ 0 _ [] rfl ?g1 ?g2 ?g3 ?g4 ?g5 ?g6 ?_; (case g1 => rfl); (case g2 => intro j u hj; simp at hj); (case g3 => intro u hu; simp at hu); (case g4 => unfold maxLen; omega); (case g5 => omega); (case g6 => exact hb2.size); intro v3 w3 hown3 hgrow3 _; have hb3 : Below w.heap.size w w3 := hb2.grown hgrow3 hb2.size (fun q hq => (hown2.lt q hq).1))
            | fail)
        all_goals
          have hl3 : (putI l x).length = 0 + l.length + 1 + 0 := by rw [HPUT.out]; simp
          have he3 : ints (putI l x) = [] ++ ints l ++ [Value.int .i64 x] ++ [] := by rw [HPUT.out]; simp [ints]
          have HO := Lib.hid (show w3.ownsRow w.heap.size 3 1 v3 (putI l x).length (ints (putI l x)) by rw [hl3, he3]; exact hown3)
          have HB := Lib.hid hb3
          clear hl3 he3 hown3 hgrow3 hb3 hown2 hgrow2 hb2 hown1 hgrow1 hb1 ho0 hA1 ho1 hA2 hcx ho2 hA3 hcy
          go_wp2_with fail
          go_ret
          exact ⟨_, rfl, .inr HO.out, HB.out⟩
      · have hkd : ¬ l.length = c := by omega
        have hke : ((l.length : Int) == (c : Int)) = false := by rw [beq_eq_false_iff_ne]; omega
        go_wp2_with fail
        have hA1 : Below w.heap.size w (w.alloc (.cells #[] 3)).drew := ((Below.refl _ w).alloc (Nat.le_refl _) _).drew
        have ho0 : (w.alloc (.cells #[] 3)).drew.ownsRow w.heap.size 3 1 (.slice (some ⟨w.heap.size, 0, none⟩) 0 0) 0 [] := made_row w 3
        have hA2 : Below w.heap.size w ((w.alloc (.cells #[] 3)).alloc (.cells #[.int .i64 x] 3)).drew := (((Below.refl _ w).alloc (Nat.le_refl _) _).alloc (by simp) _).drew
        have ho1 : ((w.alloc (.cells #[] 3)).alloc (.cells #[.int .i64 x] 3)).drew.ownsRow w.heap.size 3 1 (.slice (some ⟨w.heap.size, 0, none⟩) 0 0) 0 [] := (made_row w 3).alloc _
        have hcx : ∀ j u, [Value.int .i64 x][j]? = some u → ((w.alloc (.cells #[] 3)).alloc (.cells #[.int .i64 x] 3)).drew.cell? ((⟨w.heap.size + 1, 0, none⟩ : Addr).add j) = some u := new_cell1 (w.alloc (.cells #[] 3)) (.int .i64 x) 3 (n := w.heap.size + 1) (by simp)
        have hA3 : Below w.heap.size w ((w.alloc (.cells #[.int .i64 x] 3)).alloc (.cells #[] 3)).drew := (((Below.refl _ w).alloc (Nat.le_refl _) _).alloc (by simp) _).drew
        have ho2 : ((w.alloc (.cells #[.int .i64 x] 3)).alloc (.cells #[] 3)).drew.ownsRow w.heap.size 3 1 (.slice (some ⟨w.heap.size + 1, 0, none⟩) 0 0) 0 [] := by
          have h := made_row (w.alloc (.cells #[.int .i64 x] 3)) 3
          rw [World.size_alloc] at h
          exact owns_mono h (Nat.le_succ _)
        have hcy : ∀ j u, [Value.int .i64 x][j]? = some u → ((w.alloc (.cells #[.int .i64 x] 3)).alloc (.cells #[] 3)).drew.cell? ((⟨w.heap.size, 0, none⟩ : Addr).add j) = some u := news_below (w := w.alloc (.cells #[.int .i64 x] 3)) (new_cell1 w (.int .i64 x) 3 rfl) ((Below.refl _ _).alloc (Nat.le_refl _) _).drew
        go_region_held3 (fun _ => True) (exact True.intro)
          (first
            | (refine step_append_own rfl (.tmp 33) (.tmp 36) 30 rfl w.heap.size 3 i0 (.int .i64 0) 1 8 Tryz.underlying30 hi hz0 hz1 hz2 rfl (by decide) _ 0 [] rfl ho0 ⟨b, 0, none⟩ l.length c (ints l) rfl ?g1 ?g2 ?g3 ?g4 ?g5 ?g6 ?_; (case g1 => rw [ints, List.length_map, Nat.mul_one]); (case g2 => exact news_below HT.out hA1); (case g3 => exact ints_one _); (case g4 => unfold maxLen; omega); (case g5 => omega); (case g6 => exact hA1.size); intro v1 w1 hown1 hgrow1 _; have hb1 : Below w.heap.size w w1 := hA1.grown hgrow1 hA1.size (fun q hq => (ho0.lt q hq).1))
            | (refine step_append_own rfl (.tmp 33) (.tmp 36) 30 rfl w.heap.size 3 i0 (.int .i64 0) 1 8 Tryz.underlying30 hi hz0 hz1 hz2 rfl (by decide) _ 0 [] rfl ho1 ⟨b, 0, none⟩ l.length c (ints l) rfl ?g1 ?g2 ?g3 ?g4 ?g5 ?g6 ?_; (case g1 => rw [ints, List.length_map, Nat.mul_one]); (case g2 => exact news_below HT.out hA2); (case g3 => exact ints_one _); (case g4 => unfold maxLen; omega); (case g5 => omega); (case g6 => exact hA2.size); intro v1 w1 hown1 hgrow1 _; have hb1 : Below w.heap.size w w1 := hA2.grown hgrow1 hA2.size (fun q hq => (ho1.lt q hq).1))
            | (refine step_append_own rfl (.tmp 33) (.tmp 36) 30 rfl w.heap.size 3 i0 (.int .i64 0) 1 8 Tryz.underlying30 hi hz0 hz1 hz2 rfl (by decide) _ 0 [] rfl ho2 ⟨b, 0, none⟩ l.length c (ints l) rfl ?g1 ?g2 ?g3 ?g4 ?g5 ?g6 ?_; (case g1 => rw [ints, List.length_map, Nat.mul_one]); (case g2 => exact news_below HT.out hA3); (case g3 => exact ints_one _); (case g4 => unfold maxLen; omega); (case g5 => omega); (case g6 => exact hA3.size); intro v1 w1 hown1 hgrow1 _; have hb1 : Below w.heap.size w w1 := hA3.grown hgrow1 hA3.size (fun q hq => (ho2.lt q hq).1))
            | (refine step_append_own rfl (.tmp 37) (.tmp 39) 30 rfl w.heap.size 3 i0 (.int .i64 0) 1 8 Tryz.underlying30 hi hz0 hz1 hz2 rfl (by decide) _ (0 + l.length) _ rfl (hown1.alloc _) ⟨w1.heap.size, 0, none⟩ 1 1 [.int .i64 x] rfl rfl ?g2 ?g3 ?g4 ?g5 ?g6 ?_; (case g2 => exact new_cell1 w1 _ _ rfl); (case g3 => simp [Value.oneCell']); (case g4 => unfold maxLen; omega); (case g5 => omega); (case g6 => exact (hb1.alloc hb1.size _).size); intro v2 w2 hown2 hgrow2 _; have hb2 : Below w.heap.size w w2 := (hb1.alloc hb1.size _).grown hgrow2 (hb1.alloc hb1.size _).size (fun q hq => (hown1.lt q hq).1))
            | (refine step_append_own rfl (.tmp 37) (.tmp 39) 30 rfl w.heap.size 3 i0 (.int .i64 0) 1 8 Tryz.underlying30 hi hz0 hz1 hz2 rfl (by decide) _ (0 + l.length) _ rfl hown1 ⟨w.heap.size + 1, 0, none⟩ 1 1 [.int .i64 x] rfl rfl ?g2 ?g3 ?g4 ?g5 ?g6 ?_; (case g2 => exact news_grown hgrow1 hcx (by show some w.heap.size ≠ some (w.heap.size + 1); simp)); (case g3 => simp [Value.oneCell']); (case g4 => unfold maxLen; omega); (case g5 => omega); (case g6 => exact hb1.size); intro v2 w2 hown2 hgrow2 _; have hb2 : Below w.heap.size w w2 := hb1.grown hgrow2 hb1.size (fun q hq => (hown1.lt q hq).1))
            | (refine step_append_own rfl (.tmp 37) (.tmp 39) 30 rfl w.heap.size 3 i0 (.int .i64 0) 1 8 Tryz.underlying30 hi hz0 hz1 hz2 rfl (by decide) _ (0 + l.length) _ rfl hown1 ⟨w.heap.size, 0, none⟩ 1 1 [.int .i64 x] rfl rfl ?g2 ?g3 ?g4 ?g5 ?g6 ?_; (case g2 => exact news_grown hgrow1 hcy (by show some (w.heap.size + 1) ≠ some w.heap.size; simp)); (case g3 => simp [Value.oneCell']); (case g4 => unfold maxLen; omega); (case g5 => omega); (case g6 => exact hb1.size); intro v2 w2 hown2 hgrow2 _; have hb2 : Below w.heap.size w w2 := hb1.grown hgrow2 hb1.size (fun q hq => (hown1.lt q hq).1))
            | (refine step_append_own rfl (.tmp 40) (.tmp 43) 30 rfl w.heap.size 3 i0 (.int .i64 0) 1 8 Tryz.underlying30 hi hz0 hz1 hz2 rfl (by decide) _ (0 + l.length + 1) _ rfl hown2 ⟨b, l.length, none⟩ 0 _ [] rfl ?g1 ?g2 ?g3 ?g4 ?g5 ?g6 ?_; (case g1 => rfl); (case g2 => intro j u hj; simp at hj); (case g3 => intro u hu; simp at hu); (case g4 => unfold maxLen; omega); (case g5 => omega); (case g6 => exact hb2.size); intro v3 w3 hown3 hgrow3 _; have hb3 : Below w.heap.size w w3 := hb2.grown hgrow3 hb2.size (fun q hq => (hown2.lt q hq).1))
            | fail)
        all_goals
          have hl3 : (putI l x).length = 0 + l.length + 1 + 0 := by rw [HPUT.out]; simp
          have he3 : ints (putI l x) = [] ++ ints l ++ [Value.int .i64 x] ++ [] := by rw [HPUT.out]; simp [ints]
          have HO := Lib.hid (show w3.ownsRow w.heap.size 3 1 v3 (putI l x).length (ints (putI l x)) by rw [hl3, he3]; exact hown3)
          have HB := Lib.hid hb3
          clear hl3 he3 hown3 hgrow3 hb3 hown2 hgrow2 hb2 hown1 hgrow1 hb1 ho0 hA1 ho1 hA2 hcx ho2 hA3 hcy
          go_wp2_with fail
          go_ret
          exact ⟨_, rfl, .inr HO.out, HB.out⟩

end Go.Proofs.YtdgnhfhaaghoaaaGreatDoor
