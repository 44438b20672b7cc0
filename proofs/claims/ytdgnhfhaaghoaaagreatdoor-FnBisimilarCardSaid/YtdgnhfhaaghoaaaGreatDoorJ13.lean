/- The rounds of the reference: parts, signs, grouping: walked. -/
import Derived.Test.YtdgnhfhaaghoaaaGreatDoorProg
import Derived.Test.YtdgnhfhaaghoaaaGreatDoorJ12
import Derived.Test.YtdgnhfhaaghoaaaGreatDoorJ11
import Derived.Test.YtdgnhfhaaghoaaaGreatDoorJ6
set_option linter.unusedSimpArgs false
set_option linter.unusedVariables false
namespace Go.Proofs.YtdgnhfhaaghoaaaGreatDoor
open Go.RowKit

def foldP (parts sts : List Int) : List Int := sts.foldl (fun o s => putI o (atP parts s)) []
theorem foldP_next {parts sts : List Int} {k : Nat} (h : k < sts.length) : foldP parts (sts.take (k + 1)) = putI (foldP parts (sts.take k)) (atP parts (sts.getD k 0)) := by
  have e : sts.getD k 0 = sts[k] := by simp [List.getD, h]
  unfold foldP
  rw [List.take_succ_eq_append_getElem h, List.foldl_append, e]
  rfl
theorem foldP_sorted (parts sts : List Int) : (foldP parts sts).Pairwise (· < ·) := (fold_putI parts sts [] List.Pairwise.nil).1
theorem foldP_len (parts sts : List Int) (k : Nat) : (foldP parts (sts.take k)).length ≤ k := by
  induction k with
  | zero => simp [foldP]
  | succ k ih =>
    by_cases h : k < sts.length
    · rw [foldP_next h, putI_len]
      split <;> omega
    · rw [List.take_of_length_le (by omega)] at ih ⊢
      omega
theorem putI_pos (l : List Int) (x : Int) : 0 < (putI l x).length := List.length_pos_of_mem ((putI_mem l x x).2 (.inr rfl))

/-- A row of numbers in new memory, with a place of its own. -/
def OwnR (w : World) (B : Nat) (u : Value) (l : List Int) : Prop := w.ownsRow B 3 1 u l.length (ints l) ∧ ∃ b c, u = .slice (some ⟨b, 0, none⟩) l.length c ∧ l.length ≤ c
theorem ownR_of {w : World} {B : Nat} {u : Value} {l : List Int} (h : w.ownsRow B 3 1 u l.length (ints l)) (hl : 0 < l.length) : OwnR w B u l := by
  refine ⟨h, ?_⟩
  rcases h.2 with ⟨_, e⟩ | ⟨g, c, cur, e, _, _, hd, _⟩
  · omega
  · exact ⟨g, c, e, hd⟩

theorem ownsRow_lit {w : World} {g n : Nat} {e : TypeId} {xs : List Value} (h : w.heap[g]? = some (.cells xs.toArray e)) (hl : xs.length = n) (hm : n ≤ maxLen) : w.ownsRow g e 1 (.slice (some ⟨g, 0, none⟩) n n) n xs :=
  ⟨by omega, .inr ⟨g, n, _, rfl, Nat.le_refl _, h, Nat.le_refl _, hm, by simp [hl], by rw [Nat.mul_one, ← hl, List.take_length]⟩⟩

set_option maxRecDepth 100000 in
set_option maxHeartbeats 4000000 in
theorem l11Parts_any (A B : Option Addr) (c d : Nat) (parts sts : List Int) (w : World) (hp : parts.length ≤ 1000000) (hs : sts.length ≤ 1000000) (hin : ∀ s ∈ sts, ∃ j : Nat, s = (j : Int) ∧ j < parts.length) (hA : Cells w A (ints parts)) (hB : Cells w B (ints sts)) :
    Calls Tryz.prog 174 #[.slice A parts.length c, .slice B sts.length d] w fun e w' => ∃ r, e = .returned r ∧ OwnR w' w.heap.size r (foldP parts sts) ∧ Below w.heap.size w w' := by
  have HA := Lib.hid (show ∀ W, Below w.heap.size w W → Cells W A (ints parts) from fun W hb => hA.below hb)
  have HBB := Lib.hid (show ∀ W, Below w.heap.size w W → Cells W B (ints sts) from fun W hb => hB.below hb)
  have HIN := Lib.hid hin
  have HALL := Lib.hid (show foldP parts (sts.take sts.length) = foldP parts sts from by rw [List.take_length])
  have HNX := Lib.hid (fun k (h : k < sts.length) => foldP_next (parts := parts) h)
  have HLN := Lib.hid (fun k => foldP_len parts sts k)
  have HOWN := Lib.hid (show OwnR (w.alloc (.cells #[] 3)) w.heap.size (.slice (some ⟨w.heap.size, 0, none⟩) 0 0) (foldP parts (sts.take 0)) from ⟨made_row w 3, w.heap.size, 0, rfl, Nat.le_refl _⟩)
  have HB0 := Lib.hid ((Below.refl w.heap.size w).alloc (Nat.le_refl _) (.cells #[] 3))
  clear hA hB hin
  go_enter Tryz.func174, Tryz.ntmps174
  go_wp2_with fail
  go_loopw [5, 6] (fun u i wr => ∃ k : Nat, k ≤ sts.length ∧ i = .int .i64 k ∧ OwnR wr w.heap.size u (foldP parts (sts.take k)) ∧ Below w.heap.size w wr)
    (fun _ i _ => sts.length - (intOf i).toNat)
  case atStart => exact ⟨0, Nat.zero_le _, rfl, HOWN.out, HB0.out⟩
  case round =>
    clear HOWN HB0
    obtain ⟨k, hk, rfl, ⟨hown, b, cc, rfl, hbc⟩, hbel⟩ := hrel
    have hsz := hbel.size
    by_cases hlt : k < sts.length
    · obtain ⟨b2, o2, rfl, hc2⟩ := (HBB.out wr hbel).int hlt
      have c0 := hc2 k hlt
      have hm : sts.getD k 0 ∈ sts := getD_mem hlt
      obtain ⟨j, hj, hjl⟩ := HIN.out _ hm
      obtain ⟨b1, o1, rfl, hc1⟩ := (HA.out wr hbel).int hjl
      have c1 := hc1 j hjl
      have HN := HNX.out k hlt
      rw [hj] at c0 HN
      have hat : atP parts (j : Int) = parts.getD j 0 := by unfold atP; rw [Int.toNat_natCast]
      rw [hat] at HN
      have HN := Lib.hid HN
      have HP := Lib.hid (l1Put_any b cc (foldP parts (sts.take k)) (parts.getD j 0) wr (by have := HLN.out k; omega) hbc (foldP_sorted _ _) (Cells.of_owns hown))
      have HO := Lib.hid hown
      have HBE := Lib.hid hbel
      have HC := Lib.hid hbc
      have q0 : (0 : Int) ≤ (j : Int) := by omega
      have q1 : (j : Int) < (parts.length : Int) := by omega
      clear hc1 hc2 hm hj hat hown hbel hbc
      generalize parts.getD j 0 = y at *
      go_wp2_with fail
      (with_reducible refine HP.out.mono ?_)
      rintro e w1 ⟨r, rfl, hr, hb1⟩
      have hor : OwnR w1 w.heap.size r (putI (foldP parts (sts.take k)) y) := by
        rcases hr with ⟨rfl, e⟩ | hr
        · rw [e]
          exact ⟨owns_below HO.out hb1 (Nat.le_refl _), b, cc, rfl, HC.out⟩
        · exact ownR_of (owns_mono hr hsz) (putI_pos _ _)
      rw [← HN.out] at hor
      have HOR := Lib.hid hor
      have HB1 := Lib.hid (HBE.out.trans (hb1.mono hsz))
      clear hr hor hb1
      go_wp2_with fail
      go_roundw
      case rel => exact ⟨k + 1, by omega, by go_num, HOR.out, HB1.out⟩
      case measure => simp [intOf]; omega
    · obtain rfl : k = sts.length := by omega
      have HO := Lib.hid (show OwnR wr w.heap.size _ (foldP parts sts) from by rw [← HALL.out]; exact ⟨hown, b, cc, rfl, hbc⟩)
      have HBE := Lib.hid hbel
      rw [HALL.out] at *
      clear hown hbel hbc
      go_wp2_with fail
      go_ret
      exact ⟨_, rfl, HO.out, HBE.out⟩

/-- The sign of a state, up to an action. -/
def signTo (ss : List I3) (parts : List Int) (i k : Nat) : List Int := parts.getD i 0 :: (List.range k).flatMap fun (a : Nat) => -1 :: setOf ss parts (i : Int) (a : Int)
theorem signTo_zero (ss : List I3) (parts : List Int) (i : Nat) : signTo ss parts i 0 = [parts.getD i 0] := rfl
theorem signTo_next (ss : List I3) (parts : List Int) (i k : Nat) : signTo ss parts i (k + 1) = signTo ss parts i k ++ [-1] ++ setOf ss parts (i : Int) (k : Int) := by
  unfold signTo
  rw [List.range_succ, List.flatMap_append]
  simp
theorem setOf_len {ss : List I3} {parts : List Int} {i a : Int} {n : Nat} (h : ∀ k : Nat, ∃ j : Nat, parts.getD k 0 = (j : Int) ∧ j < n) : (setOf ss parts i a).length ≤ n :=
  pigeon n (sorted_nodup (setOf_sorted _ _ _ _)) (fun x hx => by
    obtain ⟨s, _, _, _, rfl⟩ := setOf_mem.1 hx
    exact h _)
theorem signTo_len {ss : List I3} {parts : List Int} {i n : Nat} (h : ∀ k : Nat, ∃ j : Nat, parts.getD k 0 = (j : Int) ∧ j < n) (k : Nat) : (signTo ss parts i k).length ≤ 1 + k * (n + 1) := by
  induction k with
  | zero => rw [signTo_zero]; simp
  | succ k ih =>
    have := setOf_len (ss := ss) (i := (i : Int)) (a := (k : Int)) h
    rw [signTo_next, List.length_append, List.length_append, List.length_singleton, Nat.succ_mul]
    omega

set_option maxRecDepth 100000 in
set_option maxHeartbeats 4000000 in
theorem l11Sign_any (v : Value) (l : Lab) (A : Option Addr) (c : Nat) (parts : List Int) (i : Nat) (w : World) (hs : SmallLab l) (hsl : l.steps.length ≤ 1000000) (hst : StepsN l.shows.length l.steps) (hpl : parts.length = l.shows.length) (hn : l.shows.length ≤ 40) (hi : i < l.shows.length)
    (hpn : ∀ k : Nat, ∃ j : Nat, parts.getD k 0 = (j : Int) ∧ j < l.shows.length) (hv : RLab w v l) (hA : Cells w A (ints parts)) :
    Calls Tryz.prog 134 #[v, .slice A parts.length c, .int .i64 i] w fun e w' => ∃ r, e = .returned r ∧ w'.ownsRow w.heap.size 3 1 r (signL l.steps parts i).length (ints (signL l.steps parts i)) ∧ Below w.heap.size w w' := by
  obtain ⟨i0, hi0, hz0, hz1, hz2⟩ := info_parts info_ci
  have HV := Lib.hid (show ∀ W, Below w.heap.size w W → RLab W v l from fun W hb => hv.below hb)
  have HA := Lib.hid (show ∀ W, Below w.heap.size w W → Cells W A (ints parts) from fun W hb => hA.below hb)
  obtain ⟨sv, tv, rfl, hsv, htv⟩ := hv
  obtain ⟨A1, c1', vs, rfl, _, _, _, _⟩ := hsv
  obtain ⟨D, d, rfl, _, _⟩ := htv
  obtain ⟨W0, hW0⟩ : ∃ W0, W0 = w.alloc (.cells #[.slice A1 l.shows.length c1', .slice D l.steps.length d] 27) := ⟨_, rfl⟩
  have hz0' : Below w.heap.size w W0 := by rw [hW0]; exact (Below.refl _ _).alloc (Nat.le_refl _) _
  have hs0 : W0.heap.size = w.heap.size + 1 := by rw [hW0]; simp
  have bx0 : W0.heap[w.heap.size]? = some (.cells #[.slice A1 l.shows.length c1', .slice D l.steps.length d] 27) := by rw [hW0]; exact heap_alloc_new _ _
  have HX := Lib.hid (show ∀ W, Below W0.heap.size W0 W → W.cell? ⟨w.heap.size, 0, none⟩ = some (.slice A1 l.shows.length c1') ∧ W.cell? ⟨w.heap.size, 1, none⟩ = some (.slice D l.steps.length d) from fun W hW => by
    have := (hW.block _ (by omega)).trans bx0
    exact ⟨cell_of_row _ _ _ _ _ _ this, cell_of_row _ _ _ _ _ _ this⟩)
  have HV := Lib.hid (show ∀ W, Below W0.heap.size W0 W → RLab W (.agg #[.slice A1 l.shows.length c1', .slice D l.steps.length d]) l from fun W hb => HV.out W (hz0'.trans (hb.mono hz0'.size)))
  have HA := Lib.hid (show ∀ W, Below W0.heap.size W0 W → Cells W A (ints parts) from fun W hb => HA.out W (hz0'.trans (hb.mono hz0'.size)))
  obtain ⟨b1, o1, eA, hc1⟩ := (HA.out W0 (Below.refl _ _)).int (show i < parts.length by omega)
  have c1 := hc1 i (by omega)
  subst eA
  have HNX := Lib.hid (fun k => signTo_next l.steps parts i k)
  have HLN := Lib.hid (fun k => signTo_len (ss := l.steps) (i := i) hpn k)
  have HIN := Lib.hid (show ∀ a : Int, ∀ s ∈ nextA l.steps (i : Int) a, ∃ j : Nat, s = (j : Int) ∧ j < parts.length from fun a s hs => by
    unfold nextA at hs
    rw [List.mem_map] at hs
    obtain ⟨t, ht, rfl⟩ := hs
    obtain ⟨_, j, _, h2, _, h4⟩ := hst t (List.mem_filter.1 ht).1
    exact ⟨j, h2, by omega⟩)
  have HSL := Lib.hid (fun (a : Int) => setOf_len (ss := l.steps) (i := (i : Int)) (a := a) hpn)
  have HSMALL := Lib.hid hs
  have HNL := Lib.hid (fun (a : Int) => nextA_all l.steps (i : Int) a)
  have hpl2 : parts.length ≤ 1000000 := by omega
  have HZERO := Lib.hid (signTo_zero l.steps parts i)
  have HALL := Lib.hid (show signTo l.steps parts i 8 = signL l.steps parts i from rfl)
  have HOWN := Lib.hid (show (W0.alloc (.cells #[.int .i64 (parts.getD i 0)] 3)).ownsRow W0.heap.size 3 1 (.slice (some ⟨w.heap.size + 1, 0, none⟩) 1 1) 1 [.int .i64 (parts.getD i 0)] from by rw [← hs0]; exact ownsRow_lit (xs := [.int .i64 (parts.getD i 0)]) (heap_alloc_new _ _) rfl (by unfold maxLen; omega))
  have HB0 := Lib.hid ((Below.refl W0.heap.size W0).alloc (Nat.le_refl _) (.cells #[.int .i64 (parts.getD i 0)] 3))
  have q0 : (0 : Int) ≤ (i : Int) := by omega
  have q1 : (i : Int) < (parts.length : Int) := by omega
  have HW0 := Lib.hid hW0
  have HZ0 := Lib.hid hz0'
  have hsz0 : w.heap.size ≤ W0.heap.size := by omega
  clear hc1 hst hpn hs hW0 hz0' hs0 bx0 hpl
  have HP0 : ∃ p0, p0 = parts.getD i 0 := ⟨_, rfl⟩
  obtain ⟨p0, hp0⟩ := HP0
  rw [← hp0] at HZERO HOWN HB0 c1
  clear hp0
  have c1 : (w.alloc (.cells #[.slice A1 l.shows.length c1', .slice D l.steps.length d] 27)).cell? ⟨b1, o1 + i, none⟩ = some (.int .i64 p0) := by rw [← HW0.out]; exact c1
  go_enter Tryz.func134, Tryz.ntmps134
  go_wp2_with fail
  rw [← HW0.out]
  go_loopw [7, 8] (fun u i' wr => ∃ k : Nat, k ≤ 8 ∧ i' = .int .i64 k ∧ wr.ownsRow W0.heap.size 3 1 u (signTo l.steps parts i k).length (ints (signTo l.steps parts i k)) ∧ Below W0.heap.size W0 wr)
    (fun _ i' _ => 8 - (intOf i').toNat)
  case atStart => exact ⟨0, by omega, rfl, by rw [HZERO.out]; exact HOWN.out, HB0.out⟩
  case round =>
    clear HOWN HB0 c1
    obtain ⟨k, hk, rfl, hown, hbel⟩ := hrel
    obtain ⟨AO, cO, rfl, hown⟩ := owns_form hown
    have hsz := hbel.size
    by_cases hlt : k < 8
    · obtain ⟨x0, x1⟩ := HX.out wr hbel
      have HN := Lib.hid (l11Next_any _ l (i : Int) (k : Int) wr HSMALL.out (HV.out wr hbel))
      have hnl := HNL.out (k : Int)
      have hln := HLN.out k
      have hln2 : k * (l.shows.length + 1) ≤ 8 * 41 := Nat.mul_le_mul (by omega) (by omega)
      have hsl2 := HSL.out (k : Int)
      have HO := Lib.hid hown
      have HBE := Lib.hid hbel
      have HNX1 := Lib.hid (HNX.out k)
      have hint : decide ((k : Int) < 8) = true := by simp; omega
      clear hown hbel
      go_wp2_with fail
      refine HN.out.mono ?_
      rintro e w1 ⟨r1, rfl, hr1, hb1⟩
      obtain ⟨A2, c2, rfl, hr1⟩ := owns_form hr1
      have hs1 := hb1.size
      have HB1 := Lib.hid (HBE.out.trans (hb1.mono hsz))
      have HP := Lib.hid (l11Parts_any (some ⟨b1, o1, none⟩) A2 c c2 parts (nextA l.steps (i : Int) (k : Int)) w1 hpl2 (by omega) (HIN.out _) (HA.out w1 HB1.out) (Cells.of_owns hr1))
      have HO1 := Lib.hid (owns_below HO.out hb1 (Nat.le_refl _))
      clear hr1 hb1 x0 x1
      go_wp2_with fail
      (with_reducible refine HP.out.mono ?_)
      rintro e w2 ⟨r2, rfl, hr2, hb2⟩
      obtain ⟨hr2, b3, c3, rfl, hc3⟩ := hr2
      have hs2 := hb2.size
      have HB2 := Lib.hid (HB1.out.trans (hb2.mono HB1.out.size))
      have HO2 := Lib.hid (owns_below HO1.out hb2 (Nat.le_refl _))
      have hset : foldP parts (nextA l.steps (i : Int) (k : Int)) = setOf l.steps parts (i : Int) (k : Int) := rfl
      rw [hset] at hr2 ⊢
      have HC2 := Lib.hid (show ∀ W, Below w2.heap.size w2 W → Cells W (some ⟨b3, 0, none⟩) (ints (setOf l.steps parts (i : Int) (k : Int))) from fun W hW => (Cells.of_owns hr2).below hW)
      have hb3 : b3 ≠ b3 + 1 := by omega
      have HLT3 := Lib.hid (fun (hb : (setOf l.steps parts (i : Int) (k : Int)).length ≠ 0) => hr2)
      have hr2lt := (hr2.lt b3 rfl)
      have hbase2 := HB2.out.size
      clear hset hb2 hb3 hr2
      generalize setOf l.steps parts (i : Int) (k : Int) = so at *
      generalize hS : signTo l.steps parts i k = sk at *
      have HS := Lib.hid hS
      clear hS
      have hne4 : ∀ q, (Value.slice AO sk.length cO).ownBlock = some q → q ≠ b3 := fun q hq => by have := (HO1.out.lt q hq).2; omega
      go_wp2_with (first
        | (at_builtin; refine wpList_append_own _ rfl (.tmp 25) (.tmp 26) 30 rfl W0.heap.size 3 i0 (.int .i64 0) 1 8 Tryz.underlying30 hi0 hz0 hz1 hz2 rfl (by decide) _ _ _ rfl (HO2.out.alloc _) ⟨w2.heap.size, 0, none⟩ 1 1 [.int .i64 (-1)] rfl rfl ?c1 ?c2 ?c3 ?c4 ?c5 ?_; (case c1 => intro j u hj; match j, hj with | 0, hj => (simp at hj; subst hj; simp [Addr.add])); (case c2 => intro u hu; simp at hu; subst hu; rfl); (case c3 => unfold maxLen; omega); (case c4 => omega); (case c5 => simp; omega); intro v4 w4 hown4 hgrow4 _; have hb4 : Below w2.heap.size w2 (w2.alloc (.cells #[.int .i64 (-1)] 3)) := (Below.refl _ _).alloc (Nat.le_refl _) _; have hc4 := HC2.out _ hb4; have hbb4 := HB2.out.trans (hb4.mono hbase2); have hb5 := hbb4.grown hgrow4 hbb4.size (fun q hq => (HO2.out.lt q hq).1))
        | (at_builtin; refine wpList_append_own _ rfl (.tmp 27) (.tmp 28) 30 rfl W0.heap.size 3 i0 (.int .i64 0) 1 8 Tryz.underlying30 hi0 hz0 hz1 hz2 rfl (by decide) _ _ _ rfl hown4 ⟨b3, 0, none⟩ so.length c3 (ints so) rfl ?d0 ?d1 ?d2 ?d3 ?d4 ?d5 ?_; (case d0 => simp [ints]); (case d1 => exact news_grown hgrow4 (cells_add hc4) (fun e => hne4 b3 e rfl)); (case d2 => exact ints_one _); (case d3 => unfold maxLen; omega); (case d4 => omega); (case d5 => exact hb5.size); intro v6 w6 hown6 hgrow6 _))
      have HO6 := Lib.hid (show w6.ownsRow W0.heap.size 3 1 v6 (signTo l.steps parts i (k + 1)).length (ints (signTo l.steps parts i (k + 1))) from by
        rw [HNX1.out]
        have e1 : ints (sk ++ [-1] ++ so) = ints sk ++ [.int .i64 (-1)] ++ ints so := by simp [ints]
        have e2 : (sk ++ [-1] ++ so).length = sk.length + 1 + so.length := by rw [List.length_append, List.length_append, List.length_singleton]
        rw [e1, e2]
        exact hown6)
      have HB6 := Lib.hid (hb5.grown hgrow6 hb5.size (fun q hq => (hown4.lt q hq).1))
      clear hown4 hgrow4 hb4 hc4 hbb4 hb5 hown6 hgrow6
      go_wp2_with fail
      go_roundw
      case rel => exact ⟨k + 1, by omega, by go_num, HO6.out, HB6.out⟩
      case measure => simp [intOf]; omega
    · obtain rfl : k = 8 := by omega
      rw [HALL.out] at *
      have HO := Lib.hid (owns_mono hown hsz0)
      have HBE := Lib.hid (HZ0.out.trans (hbel.mono hsz0))
      clear hown hbel
      go_wp2_with fail
      go_ret
      exact ⟨_, rfl, HO.out, HBE.out⟩

end Go.Proofs.YtdgnhfhaaghoaaaGreatDoor
