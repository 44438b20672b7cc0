/- The draws of identities, permutations, swaps and merges. -/
import Derived.Test.YtijkdpdmclkmlaaGreatDoorProg
import Derived.Test.YtijkdpdmclkmlaaGreatDoorJ18
import Derived.Test.YtijkdpdmclkmlaaGreatDoorJ21
import Derived.BigQuiet
set_option linter.unusedSimpArgs false
set_option linter.unusedVariables false
set_option maxRecDepth 100000
set_option maxHeartbeats 16000000
namespace Go.Proofs.YtijkdpdmclkmlaaGreatDoor
open Go.RowKit
theorem drawIdentityOf_any (A : Option Addr) (bs : List Int) (c : Nat) (w : World) (hA : Cells w A (u8s bs)) (hrng : ∀ x ∈ bs, 0 ≤ x ∧ x < 256) (hlen : bs.length ≤ 1000000000000) :
    Calls Tryz.prog 11 #[.slice A bs.length c] w fun e w' => ∃ (n : Int) (P : Option Addr) (d : Nat) (l : List ByteArray), e = .returned (.tuple #[.int .i64 n, .slice P l.length d]) ∧ (-1 ≤ n ∧ n ≤ 5) ∧ l.length ≤ 40 ∧ (∀ s ∈ l, s.size ≤ 100) ∧ Cells w' P (strs l) ∧ Below w.heap.size w w' := by
  obtain ⟨W0, hW0, hb0, hs0, -⟩ := laid1 w (.cells #[.slice A bs.length c, .int .i64 0, .int .u64 0] 72)
  have HC0 := Lib.hid (show Cur W0 w.heap.size A bs c 0 from by rw [hW0]; exact Cur.start hA hrng hlen)
  have HB0 := Lib.hid hb0
  have HW0 := Lib.hid hW0
  clear hA hrng hlen hb0 hW0
  go_enter Tryz.func11, Tryz.ntmps11
  have hs0' := HB0.out.size
  have hlw1 := (Below.refl W0.heap.size W0).alloc (Nat.le_refl _) (.cells #[.int .i64 0, .int .i64 1, .int .i64 2, .int .i64 3, .int .i64 4, .int .i64 5, .int .i64 (-1)] 3)
  have HLw1 := Lib.hid (show Calls Tryz.prog 88 #[.pointer (some ⟨w.heap.size, 0, none⟩), .slice (some ⟨w.heap.size + 1, 0, none⟩) 7 7] (W0.alloc (.cells #[.int .i64 0, .int .i64 1, .int .i64 2, .int .i64 3, .int .i64 4, .int .i64 5, .int .i64 (-1)] 3)) _ from by rw [← hs0]; exact among_any w.heap.size A bs c 0 (some ⟨W0.heap.size, 0, none⟩) 7 [0, 1, 2, 3, 4, 5, -1] _ ((HC0.out).below hlw1) (by omega) (by decide) (by decide) (cells_of_heap (heap_alloc_new _ _)) (fun b o e => by cases e; have := (HC0.out).lt; omega))
  have HMw1 := Lib.hid hlw1
  clear hlw1
  go_wp2_with (rw [← HW0.out])
  (with_reducible refine HLw1.out.mono ?_)
  rintro e w1 ⟨n, rfl, hx, hc, hk⟩
  have HXw1 := Lib.hid (show -1 ≤ n ∧ n ≤ 5 from by simp only [List.mem_cons, List.not_mem_nil, or_false] at hx; omega)
  have HCw1 := Lib.hid hc
  have HKw1 := Lib.hid ((Kept.of_below HMw1.out (fun q => q = w.heap.size)).trans hk)
  clear hx hc hk HLw1
  have H2 := Lib.hid (names3_any w.heap.size A bs c (0 + 2) w1 HCw1.out (by omega))
  go_wp2_with fail
  (with_reducible refine H2.out.mono ?_)
  rintro e w2 ⟨v, l, rfl, hd, hc, hk⟩
  obtain ⟨P, d, rfl, hcv⟩ := hd.ex
  have HF := Lib.hid (And.intro hd.len (And.intro hd.sz (hcv w2 (Kept.refl _ _))))
  have HB := Lib.hid (HB0.out.trans ((HKw1.out.trans hk).below (fun b hb => by omega) (by omega)))
  clear hd hc hk hcv H2
  go_wp2_with fail
  go_ret2
  exact ⟨_, _, _, _, rfl, HXw1.out, HF.out.1, HF.out.2.1, HF.out.2.2, HB.out⟩

theorem drawSwapOf_any (A : Option Addr) (bs : List Int) (c : Nat) (w : World) (hA : Cells w A (u8s bs)) (hrng : ∀ x ∈ bs, 0 ≤ x ∧ x < 256) (hlen : bs.length ≤ 1000000000000) :
    Calls Tryz.prog 18 #[.slice A bs.length c] w fun e w' => ∃ (m n : Int), e = .returned (.tuple #[.int .i64 m, .int .i64 n]) ∧ (-1 ≤ m ∧ m ≤ 5) ∧ (-1 ≤ n ∧ n ≤ 4611686018427387904) ∧ Below w.heap.size w w' := by
  obtain ⟨W0, hW0, hb0, hs0, -⟩ := laid1 w (.cells #[.slice A bs.length c, .int .i64 0, .int .u64 0] 72)
  have HC0 := Lib.hid (show Cur W0 w.heap.size A bs c 0 from by rw [hW0]; exact Cur.start hA hrng hlen)
  have HB0 := Lib.hid hb0
  have HW0 := Lib.hid hW0
  clear hA hrng hlen hb0 hW0
  go_enter Tryz.func18, Tryz.ntmps18
  have hs0' := HB0.out.size
  have hlw1 := (Below.refl W0.heap.size W0).alloc (Nat.le_refl _) (.cells #[.int .i64 0, .int .i64 1, .int .i64 2, .int .i64 3, .int .i64 4, .int .i64 5, .int .i64 (-1)] 3)
  have HLw1 := Lib.hid (show Calls Tryz.prog 88 #[.pointer (some ⟨w.heap.size, 0, none⟩), .slice (some ⟨w.heap.size + 1, 0, none⟩) 7 7] (W0.alloc (.cells #[.int .i64 0, .int .i64 1, .int .i64 2, .int .i64 3, .int .i64 4, .int .i64 5, .int .i64 (-1)] 3)) _ from by rw [← hs0]; exact among_any w.heap.size A bs c 0 (some ⟨W0.heap.size, 0, none⟩) 7 [0, 1, 2, 3, 4, 5, -1] _ ((HC0.out).below hlw1) (by omega) (by decide) (by decide) (cells_of_heap (heap_alloc_new _ _)) (fun b o e => by cases e; have := (HC0.out).lt; omega))
  have HMw1 := Lib.hid hlw1
  clear hlw1
  go_wp2_with (rw [← HW0.out])
  (with_reducible refine HLw1.out.mono ?_)
  rintro e w1 ⟨m, rfl, hx, hc, hk⟩
  have HXw1 := Lib.hid (show -1 ≤ m ∧ m ≤ 5 from by simp only [List.mem_cons, List.not_mem_nil, or_false] at hx; omega)
  have HCw1 := Lib.hid hc
  have HKw1 := Lib.hid ((Kept.of_below HMw1.out (fun q => q = w.heap.size)).trans hk)
  clear hx hc hk HLw1
  have hlw2 := (Below.refl w1.heap.size w1).alloc (Nat.le_refl _) (.cells #[.int .i64 0, .int .i64 1, .int .i64 2, .int .i64 1, .int .i64 4, .int .i64 (-1), .int .i64 4611686018427387904] 3)
  have HLw2 := Lib.hid (show Calls Tryz.prog 88 #[.pointer (some ⟨w.heap.size, 0, none⟩), .slice (some ⟨w1.heap.size, 0, none⟩) 7 7] (w1.alloc (.cells #[.int .i64 0, .int .i64 1, .int .i64 2, .int .i64 1, .int .i64 4, .int .i64 (-1), .int .i64 4611686018427387904] 3)) _ from among_any w.heap.size A bs c (0 + 2) (some ⟨w1.heap.size, 0, none⟩) 7 [0, 1, 2, 1, 4, -1, 4611686018427387904] _ ((HCw1.out).below hlw2) (by omega) (by decide) (by decide) (cells_of_heap (heap_alloc_new _ _)) (fun b o e => by cases e; have := (HCw1.out).lt; omega))
  have HMw2 := Lib.hid hlw2
  clear hlw2
  go_wp2_with fail
  (with_reducible refine HLw2.out.mono ?_)
  rintro e w2 ⟨n, rfl, hx, hc, hk⟩
  have HXw2 := Lib.hid (show -1 ≤ n ∧ n ≤ 4611686018427387904 from by simp only [List.mem_cons, List.not_mem_nil, or_false] at hx; omega)
  have HCw2 := Lib.hid hc
  have HKw2 := Lib.hid ((Kept.of_below HMw2.out (fun q => q = w.heap.size)).trans hk)
  clear hx hc hk HLw2
  have HB := Lib.hid (HB0.out.trans ((HKw1.out.trans HKw2.out).below (fun b hb => by omega) (by omega)))
  go_wp2_with fail
  go_ret2
  exact ⟨_, _, rfl, HXw1.out, HXw2.out, HB.out⟩

theorem drawMergeOf_any (A : Option Addr) (bs : List Int) (c : Nat) (w : World) (hA : Cells w A (u8s bs)) (hrng : ∀ x ∈ bs, 0 ≤ x ∧ x < 256) (hlen : bs.length ≤ 1000000000000) :
    Calls Tryz.prog 21 #[.slice A bs.length c] w fun e w' => ∃ (n : Int), e = .returned (.int .i64 n) ∧ (-1 ≤ n ∧ n ≤ 5) ∧ Below w.heap.size w w' := by
  obtain ⟨W0, hW0, hb0, hs0, -⟩ := laid1 w (.cells #[.slice A bs.length c, .int .i64 0, .int .u64 0] 72)
  have HC0 := Lib.hid (show Cur W0 w.heap.size A bs c 0 from by rw [hW0]; exact Cur.start hA hrng hlen)
  have HB0 := Lib.hid hb0
  have HW0 := Lib.hid hW0
  clear hA hrng hlen hb0 hW0
  go_enter Tryz.func21, Tryz.ntmps21
  have H1 := Lib.hid (pick_any w.heap.size A bs c 0 7 W0 HC0.out (by omega) (by omega))
  go_wp2_with (rw [← HW0.out])
  (with_reducible refine H1.out.mono ?_)
  rintro e w1 ⟨x, rfl, hx0, hx1, hc, hk⟩
  have HX := Lib.hid (show -1 ≤ x - 1 ∧ x - 1 ≤ 5 from by have := hx1 (by omega); omega)
  have HB := Lib.hid (HB0.out.trans (hk.below (fun b hb => by omega) (by omega)))
  have hx7 := hx1 (by omega)
  clear hc hk H1 hx1
  go_wp2_with fail
  go_ret
  exact ⟨_, rfl, HX.out, HB.out⟩

theorem drawPermutationOf_any (A : Option Addr) (bs : List Int) (c : Nat) (w : World) (hA : Cells w A (u8s bs)) (hrng : ∀ x ∈ bs, 0 ≤ x ∧ x < 256) (hlen : bs.length ≤ 1000000000000) :
    Calls Tryz.prog 14 #[.slice A bs.length c] w fun e w' => ∃ (P : Option Addr) (d : Nat) (l : List Int), e = .returned (.slice P l.length d) ∧ l.length ≤ 40 ∧ (∀ x ∈ l, -1 ≤ x ∧ x ≤ 40) ∧ Cells w' P (ints l) ∧ Below w.heap.size w w' := by
  obtain ⟨W0, hW0, hb0, hs0, -⟩ := laid1 w (.cells #[.slice A bs.length c, .int .i64 0, .int .u64 0] 72)
  have HC0 := Lib.hid (show Cur W0 w.heap.size A bs c 0 from by rw [hW0]; exact Cur.start hA hrng hlen)
  have HB0 := Lib.hid hb0
  have HW0 := Lib.hid hW0
  clear hA hrng hlen hb0 hW0
  go_enter Tryz.func14, Tryz.ntmps14
  have H1 := Lib.hid (pick_any w.heap.size A bs c 0 6 W0 HC0.out (by omega) (by omega))
  go_wp2_with (rw [← HW0.out])
  (with_reducible refine H1.out.mono ?_)
  rintro e w1 ⟨x, rfl, hx0, hx1, hc, hk⟩
  obtain ⟨m, rfl⟩ := Int.eq_ofNat_of_zero_le hx0
  have H2 := Lib.hid (order_any w.heap.size A bs c (0 + 2) m w1 hc (by omega) (by have := hx1 (by omega); omega))
  have HK1 := Lib.hid hk
  clear hc hk H1 hx0 hx1
  go_wp2_with fail
  (with_reducible refine H2.out.mono ?_)
  rintro e w2 ⟨v, l, rfl, hd, hc, hk⟩
  have H3 := Lib.hid (one_any w.heap.size A bs c (0 + 2 + 100) 16 w2 hc (by omega) (by omega))
  have HK2 := Lib.hid (HK1.out.trans hk)
  have HOW := Lib.hid (owns_mono hd.own HK1.out.size)
  have HLB := Lib.hid (And.intro hd.len hd.bd)
  clear hc hk H2 hd
  obtain ⟨P, d, rfl, _⟩ := owns_form HOW.out
  go_wp2_with fail
  (with_reducible refine H3.out.mono ?_)
  rintro e w3 ⟨b, rfl, hc, hk⟩
  have HC3 := Lib.hid hc
  have HK3 := Lib.hid (HK2.out.trans hk)
  have HO3 := Lib.hid (ownsK HOW.out hk (fun g hg e => by have := (HOW.out.lt g hg).1; omega))
  clear hc hk H3
  cases b
  · go_wp2_with fail
    go_ret
    exact ⟨_, _, l, rfl, HLB.out.1, HLB.out.2, Cells.of_owns HO3.out, HB0.out.trans (HK3.out.below (fun b hb => by omega) (by omega))⟩
  by_cases h0 : 0 < l.length
  · obtain ⟨g, c', hv, _⟩ := own_ptr HO3.out h0
    cases hv
    have HGL := Lib.hid (HO3.out.lt g rfl)
    have hl0 : (0 : Int) < (l.length : Int) := by omega
    have hW3 := HK3.out.size
    have hlw4 := (Below.refl w3.heap.size w3).alloc (Nat.le_refl _) (.cells #[.int .i64 (-1), .int .i64 0, .int .i64 1, .int .i64 9] 3)
    have HLw4 := Lib.hid (show Calls Tryz.prog 88 #[.pointer (some ⟨w.heap.size, 0, none⟩), .slice (some ⟨w3.heap.size, 0, none⟩) 4 4] (w3.alloc (.cells #[.int .i64 (-1), .int .i64 0, .int .i64 1, .int .i64 9] 3)) _ from among_any w.heap.size A bs c (0 + 2 + 100 + 2) (some ⟨w3.heap.size, 0, none⟩) 4 [-1, 0, 1, 9] _ ((HC3.out).below hlw4) (by omega) (by decide) (by decide) (cells_of_heap (heap_alloc_new _ _)) (fun b o e => by cases e; have := (HC3.out).lt; omega))
    have HMw4 := Lib.hid hlw4
    clear hlw4
    go_wp2_with fail
    (with_reducible refine HLw4.out.mono ?_)
    rintro e w4 ⟨y, rfl, hx, hc, hk⟩
    have HXw4 := Lib.hid (show -1 ≤ y ∧ y ≤ 40 from by simp only [List.mem_cons, List.not_mem_nil, or_false] at hx; omega)
    have HCw4 := Lib.hid hc
    have HKw4 := Lib.hid ((Kept.of_below HMw4.out (fun q => q = w.heap.size)).trans hk)
    clear hx hc hk HLw4
    have HO4 := Lib.hid (ownsK HO3.out HKw4.out (fun g hg e => by have := (HO3.out.lt g hg).1; omega))
    have hz := HO4.out.cellAt 0 (by omega)
    have hf := HO4.out.frozenAt 0
    have HST := Lib.hid (HO4.out.stored 0 (.int .i64 y))
    rw [List.getElem?_eq_getElem (show 0 < (ints l).length by simp [ints]; omega)] at hz
    generalize (ints l)[0]'_ = z at hz
    go_wp2_with fail
    go_ret
    have hst := HST.out.1
    rw [show (ints l).set 0 (.int .i64 y) = ints (l.set 0 y) from by unfold ints; rw [List.map_set]] at hst
    refine ⟨_, d, l.set 0 y, by rw [List.length_set]; rfl, by rw [List.length_set]; exact HLB.out.1, fun x hx => ?_, Cells.of_owns hst, ?_⟩
    · rcases List.mem_or_eq_of_mem_set hx with h | h
      · exact HLB.out.2 x h
      have := HXw4.out; omega
    have hk := (HK3.out.trans HKw4.out).mono (T := fun q => w.heap.size ≤ q) (fun q hq => by omega)
    exact HB0.out.trans ((hk.setCell (p := ⟨g, 0, none⟩) (show w.heap.size ≤ g from by have := HGL.out.1; omega) (.int .i64 y)).below (fun b hb => hb) (by omega))
  have hl0 : l.length = 0 := by omega
  have HL0 := Lib.hid hl0
  have h00 : ¬ (0 : Int) < (l.length : Int) := by omega
  clear hl0
  go_wp2_with fail
  go_ret
  exact ⟨_, _, l, rfl, HLB.out.1, HLB.out.2, Cells.of_owns HO3.out, HB0.out.trans (HK3.out.below (fun b hb => by omega) (by omega))⟩

end Go.Proofs.YtijkdpdmclkmlaaGreatDoor
