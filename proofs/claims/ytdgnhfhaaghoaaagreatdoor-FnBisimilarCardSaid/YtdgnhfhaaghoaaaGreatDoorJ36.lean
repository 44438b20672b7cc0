/- The laws' vCut: a suffix of a code, and a byte more, in new memory. A table the other way round: the reference walked. -/
import Derived.Test.YtdgnhfhaaghoaaaGreatDoorProg
import Derived.Test.YtdgnhfhaaghoaaaGreatDoorJ1
import Derived.Test.YtdgnhfhaaghoaaaGreatDoorJ2
import Derived.Test.YtdgnhfhaaghoaaaGreatDoorJ5
import Derived.Test.YtdgnhfhaaghoaaaGreatDoorJ32
import Derived.Deep.RegionHeld3
set_option linter.unusedSimpArgs false
set_option linter.unusedVariables false
namespace Go.Proofs.YtdgnhfhaaghoaaaGreatDoor
open Go.RowKit

theorem info_u8 : (Tryz.prog.info? 5).map (fun i => (i.zero, i.size, i.bytes)) = some (some (.int .u8 0), 1, 1) := by kernel_rfl
theorem u8s_one (bs : List Int) : ∀ y ∈ u8s bs, y.oneCell' = true := fun y hy => by
  obtain ⟨x, _, rfl⟩ := List.mem_map.1 hy; rfl
theorem vcut_fin {w W1 : World} (hW : W1 = w.alloc (.cells #[] 5)) (x : Int) (Z : Array Value) (t : TypeId) :
    Cells ((W1.alloc (.cells #[.int .u8 x] t)).alloc (.cells (#[.int .u8 x] ++ Z) t)).drew (some ⟨w.heap.size + 1 + 1, 0, none⟩) (u8s [x]) ∧ Below w.heap.size w ((W1.alloc (.cells #[.int .u8 x] t)).alloc (.cells (#[.int .u8 x] ++ Z) t)).drew := by
  have hs : W1.heap.size = w.heap.size + 1 := by rw [hW]; simp
  have hb : Below w.heap.size w W1 := by rw [hW]; exact (Below.refl _ _).alloc (Nat.le_refl _) _
  refine ⟨fun j u hj => ?_, ((hb.alloc (by omega) _).alloc (by simp; omega) _).drew⟩
  match j, hj with
  | 0, hj =>
    simp [u8s] at hj
    subst hj
    refine ⟨_, _, rfl, ?_⟩
    have h := heap_alloc_new (W1.alloc (.cells #[.int .u8 x] t)) (.cells (#[.int .u8 x] ++ Z) t)
    rw [World.size_alloc, hs] at h
    exact (cell_of_row _ (w.heap.size + 1 + 1) 0 _ _ _ h).trans (by rw [Array.getElem?_append_left (by simp)]; rfl)

set_option maxRecDepth 100000 in
set_option maxHeartbeats 4000000 in
theorem vCut_any (A : Option Addr) (bs : List Int) (c n : Nat) (w : World) (hA : Cells w A (u8s bs)) (hrng : ∀ x ∈ bs, 0 ≤ x ∧ x < 256) (hc : bs.length ≤ c) (hlen : bs.length ≤ 1000000) (hn : n ≤ 200) :
    Calls Tryz.prog 31 #[.slice A bs.length c, .int .i64 n] w fun e w' => ∃ A' c' bs', e = .returned (.slice A' bs'.length c') ∧ Cells w' A' (u8s bs') ∧ (∀ x ∈ bs', 0 ≤ x ∧ x < 256) ∧ bs'.length ≤ bs.length + 1 ∧ Below w.heap.size w w' := by
  obtain ⟨i0, hi, hz0, hz1, hz2⟩ := info_parts info_u8
  obtain ⟨W1, hW1⟩ : ∃ W1, W1 = w.alloc (.cells #[] 5) := ⟨_, rfl⟩
  have HF := Lib.hid (fun x Z => vcut_fin hW1 x Z 5)
  by_cases hge : bs.length ≤ n
  · have HW1 := Lib.hid hW1
    have hAn : A = none → bs.length = 0 := fun e => by
      cases bs with
      | nil => rfl
      | cons x r => obtain ⟨b, o, e', _⟩ := hA 0 (.int .u8 x) rfl; rw [e] at e'; cases e'
    generalize bs.length = m at *
    clear hA hW1 hrng
    cases A with
    | none =>
      obtain rfl : m = 0 := hAn rfl
      by_cases hlt : 0 < n
      · have hlt' : (0 : Int) < (n : Int) := by omega
        go_enter Tryz.func31, Tryz.ntmps31
        go_wp2_with fail
        go_ret
        rw [← HW1.out]
        exact ⟨_, _, [0], rfl, (HF.out 0 _).1, (fun y hy => by simp at hy; subst hy; omega), by simp, (HF.out 0 _).2⟩
      · obtain rfl : n = 0 := by omega
        go_enter Tryz.func31, Tryz.ntmps31
        go_wp2_with fail
        go_ret
        rw [← HW1.out]
        exact ⟨_, _, [0], rfl, (HF.out 0 _).1, (fun y hy => by simp at hy; subst hy; omega), by simp, (HF.out 0 _).2⟩
    | some ad =>
      clear hAn
      by_cases hlt : m < n
      · have hlt' : (m : Int) < (n : Int) := by omega
        by_cases hcm : m = c
        · subst hcm
          go_enter Tryz.func31, Tryz.ntmps31
          go_wp2_with fail
          go_ret
          rw [← HW1.out]
          exact ⟨_, _, [(m : Int)], rfl, (HF.out (m : Int) _).1, (fun y hy => by simp at hy; subst hy; omega), by simp, (HF.out (m : Int) _).2⟩
        · have hcm' : ¬ (m : Int) = (c : Int) := by omega
          have hc' : (m : Int) ≤ (c : Int) := by omega
          go_enter Tryz.func31, Tryz.ntmps31
          go_wp2_with fail
          all_goals
            go_ret
            rw [← HW1.out]
            exact ⟨_, _, [(m : Int)], rfl, (HF.out (m : Int) _).1, (fun y hy => by simp at hy; subst hy; omega), by simp, (HF.out (m : Int) _).2⟩
      · obtain rfl : m = n := by omega
        by_cases hcm : m = c
        · subst hcm
          go_enter Tryz.func31, Tryz.ntmps31
          go_wp2_with fail
          go_ret
          rw [← HW1.out]
          exact ⟨_, _, [(m : Int)], rfl, (HF.out (m : Int) _).1, (fun y hy => by simp at hy; subst hy; omega), by simp, (HF.out (m : Int) _).2⟩
        · have hcm' : ¬ (m : Int) = (c : Int) := by omega
          have hc' : (m : Int) ≤ (c : Int) := by omega
          go_enter Tryz.func31, Tryz.ntmps31
          go_wp2_with fail
          all_goals
            go_ret
            rw [← HW1.out]
            exact ⟨_, _, [(m : Int)], rfl, (HF.out (m : Int) _).1, (fun y hy => by simp at hy; subst hy; omega), by simp, (HF.out (m : Int) _).2⟩
  have hgt : n < bs.length := by omega
  have hlt' : ¬ (bs.length : Int) < (n : Int) := by omega
  have hn1 : (n : Int) < (bs.length : Int) := by omega
  have hn2 : (n : Int) < (c : Int) := by omega
  have hcn : ¬ n = c := by omega
  obtain ⟨ad, rfl⟩ : ∃ ad, A = some ad := by
    cases bs with
    | nil => simp at hgt
    | cons x r => obtain ⟨b, o, e', _⟩ := hA 0 (.int .u8 x) rfl; exact ⟨_, e'⟩
  have hb1 : Below w.heap.size w W1 := by rw [hW1]; exact (Below.refl _ _).alloc (Nat.le_refl _) _
  have HO1 := Lib.hid (show W1.ownsRow w.heap.size 5 1 (.slice (some ⟨w.heap.size, 0, none⟩) 0 0) 0 [] by rw [hW1]; exact World.ownsRow_made w #[] 0 (Nat.le_refl _) (Nat.zero_le _) rfl)
  have HB1 := Lib.hid hb1
  have hs1 : W1.heap.size = w.heap.size + 1 := by rw [hW1]; simp
  have HCC := Lib.hid (show ∀ j u, (u8s (bs.drop n))[j]? = some u → W1.cell? ((ad.add n).add j) = some u from fun j u hj => by
    have hj' : (u8s bs)[n + j]? = some u := by
      have e : u8s (bs.drop n) = (u8s bs).drop n := by simp [u8s, List.map_drop]
      rw [e, List.getElem?_drop] at hj; exact hj
    obtain ⟨b, o, e, h⟩ := (hA.below hb1) _ _ hj'
    cases e
    rw [Addr.add_lit, Addr.add_lit, Nat.add_assoc]; exact h)
  have HW1 := Lib.hid hW1
  clear hW1 hb1 hA hge
  go_enter Tryz.func31, Tryz.ntmps31
  have e0 : (bs.drop n).length ≤ 1000000 := by simp; omega
  have e1 : (bs.drop n).length ≤ bs.length := by simp
  have HE := Lib.hid (show ∀ x ∈ bs.drop n, 0 ≤ x ∧ x < 256 from fun x hx => hrng x (List.mem_of_mem_drop hx))
  have HLE := Lib.hid (show bs.length - n = (bs.drop n).length by simp)
  generalize bs.drop n = r at *
  go_wp2_with (first
    | (at_builtin; refine wpList_append_own _ rfl (.tmp 11) (.tmp 14) 22 rfl w.heap.size 5 i0 (.int .u8 0) 1 1 Tryz.underlying22 hi hz0 hz1 hz2 rfl (by decide) _ _ _ rfl (HW1.out ▸ HO1.out) (ad.add n) (bs.length - n) (c - n) (u8s r) rfl (by simp [HLE.out]) (HW1.out ▸ HCC.out) (u8s_one _) (by unfold maxLen; omega) (by omega) (by rw [← HW1.out]; omega) ?_; intro v2 w2 hown2 hgrow2 _; rw [← HW1.out] at hgrow2; rw [show 0 + (bs.length - n) = r.length by rw [HLE.out]; omega, List.nil_append] at hown2; have hb2 := HB1.out.grown hgrow2 HB1.out.size (fun q hq => (HO1.out.lt q hq).1); have HO2 := Lib.hid hown2; have HB2 := Lib.hid hb2; have hs2 := hb2.size; clear hown2 hgrow2 hb2; have hb3 := (Below.refl w2.heap.size w2).alloc (Nat.le_refl _) (.cells #[.int .u8 (n : Int)] 5); have HB3 := Lib.hid (HB2.out.trans (hb3.mono HB2.out.size)); have HO3 := Lib.hid (HO2.out.alloc (.cells #[.int .u8 (n : Int)] 5)); have HC3 := Lib.hid (heap_alloc_new w2 (.cells #[.int .u8 (n : Int)] 5)); clear hb3)
    | (at_builtin; refine wpList_append_own _ rfl (.tmp 15) (.tmp 18) 22 rfl w.heap.size 5 i0 (.int .u8 0) 1 1 Tryz.underlying22 hi hz0 hz1 hz2 rfl (by decide) _ _ _ rfl HO3.out ⟨w2.heap.size, 0, none⟩ 1 1 [.int .u8 (n : Int)] rfl rfl (fun j' u' hj' => by match j', hj' with | 0, hj' => (simp at hj'; subst hj'; exact cell_of_row _ w2.heap.size _ _ _ _ HC3.out)) (fun u' hu' => by simp at hu'; subst hu'; rfl) (by unfold maxLen; omega) (by omega) (by simp; omega) ?_; intro v4 w4 hown4 hgrow4 _)
    | fail)
  have hb4 := HB3.out.grown hgrow4 HB3.out.size (fun q hq => (HO2.out.lt q hq).1)
  have hown4' : w4.ownsRow w.heap.size 5 1 v4 (r ++ [(n : Int)]).length (u8s (r ++ [(n : Int)])) := by simpa [u8s] using hown4
  obtain ⟨A', c', e4, h5⟩ := owns_form hown4'
  go_ret
  refine ⟨A', c', r ++ [(n : Int)], by rw [← e4]; rfl, Cells.of_owns h5, (fun y hy => by rcases List.mem_append.1 hy with h | h; exact HE.out y h; simp at h; subst h; omega), by simp; omega, hb4⟩

end Go.Proofs.YtdgnhfhaaghoaaaGreatDoor

set_option linter.unusedVariables false
namespace Go.Proofs.YtdgnhfhaaghoaaaGreatDoor
open Go.RowKit

def flipF (f : Nat → Nat → Bool) : Nat → Nat → Bool := fun k i => f i k
/-- What is turned after i rows and k more. -/
def turnF (f : Nat → Nat → Bool) (i k : Nat) : Nat → Nat → Bool := fun a b => if b < i ∨ (b = i ∧ a < k) then f b a else false
theorem turnF_set (f : Nat → Nat → Bool) (i k : Nat) : setN (turnF f i k) k i (f i k) = turnF f i (k + 1) := by
  funext a b
  unfold setN turnF
  by_cases h : a = k ∧ b = i
  · obtain ⟨rfl, rfl⟩ := h
    rw [if_pos ⟨rfl, rfl⟩, if_pos (.inr ⟨rfl, by omega⟩)]
  · rw [if_neg h]
    by_cases h2 : b < i ∨ (b = i ∧ a < k)
    · rw [if_pos h2, if_pos (by omega)]
    · rw [if_neg h2, if_neg (by omega)]
theorem turnF_row {f : Nat → Nat → Bool} {n : Nat} (i : Nat) : ∀ a b, a < n → b < n → turnF f i n a b = turnF f (i + 1) 0 a b := by
  intro a b ha hb
  unfold turnF
  by_cases h2 : b < i ∨ (b = i ∧ a < n)
  · rw [if_pos h2, if_pos (by omega)]
  · rw [if_neg h2, if_neg (by omega)]
theorem turnF_all {f : Nat → Nat → Bool} {n : Nat} : ∀ a b, a < n → b < n → turnF f n 0 a b = flipF f a b := by
  intro a b ha hb
  unfold turnF flipF
  rw [if_pos (.inl hb)]

set_option maxRecDepth 100000 in
set_option maxHeartbeats 8000000 in
theorem l11Flip_any (B g c n : Nat) (R C : Nat → Nat) (f : Nat → Nat → Bool) (w : World) (h0 : 1 ≤ n) (h1 : n ≤ 40) (hT : TabB w B g R C n f) :
    Calls Tryz.prog 113 #[.slice (some ⟨g, 0, none⟩) n c] w fun e w' => ∃ g c R C, e = .returned (.slice (some ⟨g, 0, none⟩) n c) ∧ TabB w' w.heap.size g R C n (flipF f) ∧ Below w.heap.size w w' := by
  have H := Lib.hid (l11Table_any n w h0 h1)
  have HT := Lib.hid (show ∀ W, Below w.heap.size w W → TabB W B g R C n f from fun W hb => hT.below hb (Nat.le_refl _))
  have HTW := Lib.hid hT
  clear hT
  go_enter Tryz.func113, Tryz.ntmps113
  go_wp2_with fail
  refine H.out.mono ?_
  rintro e w1 ⟨g2, c2, R2, C2, rfl, ht, hb1⟩
  have HT2 := Lib.hid (ht.congr (f' := turnF f 0 0) (fun a b _ _ => by simp [turnF]))
  have HB := Lib.hid hb1
  clear ht hb1
  go_wp2_with fail
  go_loopw [4] (fun q wr => ∃ i : Nat, i ≤ n ∧ q = .int .i64 i ∧ TabB wr w.heap.size g2 R2 C2 n (turnF f i 0) ∧ Below w.heap.size w wr)
    (fun q _ => n - (intOf q).toNat)
  case atStart => exact ⟨0, Nat.zero_le _, rfl, HT2.out, HB.out⟩
  case round =>
    clear HT2 HB
    obtain ⟨i, hi, rfl, ht, hbel⟩ := hrel
    have HT2 := Lib.hid ht
    have HZ := Lib.hid hbel
    clear ht hbel
    by_cases hlt : i < n
    · go_wp2_with fail
      go_loopw [5] (fun q wr => ∃ k : Nat, k ≤ n ∧ q = .int .i64 k ∧ TabB wr w.heap.size g2 R2 C2 n (turnF f i k) ∧ Below w.heap.size w wr)
        (fun q _ => n - (intOf q).toNat)
      case atStart => exact ⟨0, Nat.zero_le _, rfl, HT2.out, HZ.out⟩
      case round =>
        clear HT2 HZ
        obtain ⟨k, hk, rfl, ht, hbel⟩ := hrel
        have HT2 := Lib.hid ht
        have HZ := Lib.hid hbel
        by_cases hkt : k < n
        · have h1t := HT.out wr hbel
          have o1 := h1t.outer i hlt
          obtain ⟨n1, _⟩ := h1t.inner i k hlt hkt
          have o2 := ht.outer k hkt
          obtain ⟨m1, m2⟩ := ht.inner k i hkt hlt
          have hTS := ht.set hkt hlt (f i k)
          rw [turnF_set] at hTS
          have HTS := Lib.hid hTS
          have b0 : (0 : Int) ≤ (i : Int) := by omega
          have b1 : (i : Int) < (n : Int) := by omega
          have b2 : (0 : Int) ≤ (k : Int) := by omega
          have b3 : (k : Int) < (n : Int) := by omega
          have hr2 := (ht.low k hkt).1
          have hr2g := (ht.low k hkt).2
          have hgw := lt_of_cell (HTW.out.outer i hlt)
          have hrw := lt_of_cell (HTW.out.inner i k hlt hkt).1
          have hS : ∀ b, (wr.setCell ⟨R2 k, i, none⟩ (.bool b)).drew.cell? ⟨g, i, none⟩ = some (.slice (some ⟨R i, 0, none⟩) n (C i)) ∧ (wr.setCell ⟨R2 k, i, none⟩ (.bool b)).drew.cell? ⟨R i, k, none⟩ = some (.bool (f i k)) ∧ (wr.setCell ⟨R2 k, i, none⟩ (.bool b)).drew.cell? ⟨g2, k, none⟩ = some (.slice (some ⟨R2 k, 0, none⟩) n (C2 k)) := fun b => by
            dsimp only at hgw hrw
            refine ⟨?_, ?_, ?_⟩
            · exact (World.cell?_setCell_other wr _ _ _ (by intro e; simp only [Addr.mk.injEq, and_true] at e; omega)).trans o1
            · exact (World.cell?_setCell_other wr _ _ _ (by intro e; simp only [Addr.mk.injEq, and_true] at e; omega)).trans n1
            · exact (World.cell?_setCell_other wr _ _ _ (by intro e; simp only [Addr.mk.injEq, and_true] at e; omega)).trans o2
          have HS := Lib.hid hS
          have HTD := Lib.hid (show TabB (wr.setCell ⟨R2 k, i, none⟩ (.bool (f i k))).drew w.heap.size g2 R2 C2 n (turnF f i (k + 1)) from HTS.out.below (Below.refl _ _).drew (Nat.le_refl _))
          have HZD := Lib.hid (hbel.setCell (p := ⟨R2 k, i, none⟩) hr2 (.bool (f i k))).drew
          clear hS hTS h1t ht hbel hgw hrw
          generalize f i k = fv at *
          go_wp2_with fail
          go_region_held3 (fun w' => w'.cell? ⟨g, i, none⟩ = some (.slice (some ⟨R i, 0, none⟩) n (C i)) ∧ w'.cell? ⟨R i, k, none⟩ = some (.bool fv) ∧ w'.cell? ⟨g2, k, none⟩ = some (.slice (some ⟨R2 k, 0, none⟩) n (C2 k)))
            (first | exact HS.out _ | go_keep)
            (first | fail)
          go_wp2_with fail
          go_roundw
          case rel => exact ⟨k + 1, by omega, by go_num, HTD.out, HZD.out⟩
          case measure => simp [intOf]; omega
        · obtain rfl : k = n := by omega
          have HT3 := Lib.hid (ht.congr (turnF_row i))
          clear ht hbel
          go_wp2_with fail
          go_roundw
          case rel => exact ⟨i + 1, by omega, by go_num, HT3.out, HZ.out⟩
          case measure => simp [intOf]; omega
    · obtain rfl : i = n := by omega
      have HT3 := Lib.hid (HT2.out.congr turnF_all)
      go_wp2_with fail
      go_ret
      exact ⟨g2, c2, R2, C2, rfl, HT3.out, HZ.out⟩

end Go.Proofs.YtdgnhfhaaghoaaaGreatDoor
