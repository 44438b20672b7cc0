/- A formula drawn: some short row of numbers in new memory. -/
import Derived.Test.YtdgnhfhaaghoaaaGreatDoorProg
import Derived.Test.YtdgnhfhaaghoaaaGreatDoorJ1
import Derived.Test.YtdgnhfhaaghoaaaGreatDoorJ27
import Derived.Test.YtdgnhfhaaghoaaaGreatDoorJ18
import Derived.Test.YtdgnhfhaaghoaaaGreatDoorJ15
set_option linter.unusedSimpArgs false
set_option linter.unusedVariables false
namespace Go.Proofs.YtdgnhfhaaghoaaaGreatDoor
open Go.RowKit

theorem heapA (w : World) (o : Obj) (k : Nat) : (w.alloc o).heap[k]? = if k = w.heap.size then some o else w.heap[k]? := by
  split
  · rename_i h; rw [h]; exact heap_alloc_new _ _
  · rename_i h
    rcases Nat.lt_or_ge k w.heap.size with h2 | h2
    · exact heap_alloc_old _ _ h2
    · rw [Array.getElem?_eq_none (by simp; omega), Array.getElem?_eq_none h2]
theorem lit_at {W : World} {g B n : Nat} {e : TypeId} {xs : List Value} (h : W.heap[g]? = some (.cells xs.toArray e)) (hl : xs.length = n) (hm : n ≤ maxLen) (hB : B ≤ g) : W.ownsRow B e 1 (.slice (some ⟨g, 0, none⟩) n n) n xs := owns_mono (ownsRow_lit h hl hm) hB

set_option maxRecDepth 100000 in
set_option maxHeartbeats 4000000 in
theorem formula_leaf (p : Nat) (A : Option Addr) (bs : List Int) (c m K : Nat) (w : World) (hm : m ≤ 1) (hC : Cur w p A bs c K) (hK : K ≤ 10000000000000) :
    Calls Tryz.prog 148 #[.pointer (some ⟨p, 0, none⟩), .int .i64 m] w fun e w' => ∃ (r : Value) (f : List Int), e = .returned r ∧ w'.ownsRow w.heap.size 3 1 r f.length (ints f) ∧ 1 ≤ f.length ∧ f.length ≤ 2 ∧ Cur w' p A bs c (K + 2) ∧ Kept (fun q => q = p) w w' := by
  obtain ⟨W5, hW5⟩ : ∃ W5, W5 = ((((w.alloc (.cells #[.int .i64 0] 3)).alloc (.cells #[.int .i64 1, .int .i64 0] 3)).alloc (.cells #[.int .i64 1, .int .i64 1] 3)).alloc (.cells #[.int .i64 1, .int .i64 7] 3)).alloc (.cells #[.slice (some ⟨w.heap.size, 0, none⟩) 1 1, .slice (some ⟨w.heap.size + 1, 0, none⟩) 2 2, .slice (some ⟨w.heap.size + 1 + 1, 0, none⟩) 2 2, .slice (some ⟨w.heap.size + 1 + 1 + 1, 0, none⟩) 2 2] 30) := ⟨_, rfl⟩
  have hs5 : W5.heap.size = w.heap.size + 1 + 1 + 1 + 1 + 1 := by rw [hW5]; simp
  have hb5 : Below w.heap.size w W5 := by
    rw [hW5]
    exact (((((Below.refl _ _).alloc (Nat.le_refl _) _).alloc (by simp) _).alloc (by simp; omega) _).alloc (by simp; omega) _).alloc (by simp; omega) _
  have g0 : W5.heap[w.heap.size]? = some (.cells (ints [0]).toArray 3) := by rw [hW5]; rw [heapA, if_neg (by simp only [World.size_alloc]; omega)]; rw [heapA, if_neg (by simp only [World.size_alloc]; omega)]; rw [heapA, if_neg (by simp only [World.size_alloc]; omega)]; rw [heapA, if_neg (by simp only [World.size_alloc]; omega)]; rw [heapA, if_pos (by simp only [World.size_alloc])]; rfl
  have g1 : W5.heap[w.heap.size + 1]? = some (.cells (ints [1, 0]).toArray 3) := by rw [hW5]; rw [heapA, if_neg (by simp only [World.size_alloc]; omega)]; rw [heapA, if_neg (by simp only [World.size_alloc]; omega)]; rw [heapA, if_neg (by simp only [World.size_alloc]; omega)]; rw [heapA, if_pos (by simp only [World.size_alloc])]; rfl
  have g2 : W5.heap[w.heap.size + 1 + 1]? = some (.cells (ints [1, 1]).toArray 3) := by rw [hW5]; rw [heapA, if_neg (by simp only [World.size_alloc]; omega)]; rw [heapA, if_neg (by simp only [World.size_alloc]; omega)]; rw [heapA, if_pos (by simp only [World.size_alloc])]; rfl
  have g3 : W5.heap[w.heap.size + 1 + 1 + 1]? = some (.cells (ints [1, 7]).toArray 3) := by rw [hW5]; rw [heapA, if_neg (by simp only [World.size_alloc]; omega)]; rw [heapA, if_pos (by simp only [World.size_alloc])]; rfl
  have g4 : W5.heap[w.heap.size + 1 + 1 + 1 + 1]? = some (.cells #[.slice (some ⟨w.heap.size, 0, none⟩) 1 1, .slice (some ⟨w.heap.size + 1, 0, none⟩) 2 2, .slice (some ⟨w.heap.size + 1 + 1, 0, none⟩) 2 2, .slice (some ⟨w.heap.size + 1 + 1 + 1, 0, none⟩) 2 2] 30) := by rw [hW5]; rw [heapA, if_pos (by simp only [World.size_alloc])]
  have hpw := hC.lt
  have HG := Lib.hid (show ∀ W, Kept (fun q => q = p) W5 W → W.heap[w.heap.size]? = some (.cells (ints [0]).toArray 3) ∧ W.heap[w.heap.size + 1]? = some (.cells (ints [1, 0]).toArray 3) ∧ W.heap[w.heap.size + 1 + 1]? = some (.cells (ints [1, 1]).toArray 3) ∧ W.heap[w.heap.size + 1 + 1 + 1]? = some (.cells (ints [1, 7]).toArray 3) ∧ W.heap[w.heap.size + 1 + 1 + 1 + 1]? = some (.cells #[.slice (some ⟨w.heap.size, 0, none⟩) 1 1, .slice (some ⟨w.heap.size + 1, 0, none⟩) 2 2, .slice (some ⟨w.heap.size + 1 + 1, 0, none⟩) 2 2, .slice (some ⟨w.heap.size + 1 + 1 + 1, 0, none⟩) 2 2] 30) from fun W hk => ⟨(hk.block _ (by omega) (by omega)).trans g0, (hk.block _ (by omega) (by omega)).trans g1, (hk.block _ (by omega) (by omega)).trans g2, (hk.block _ (by omega) (by omega)).trans g3, (hk.block _ (by omega) (by omega)).trans g4⟩)
  have HC5 := Lib.hid (hC.below hb5)
  have HB5 := Lib.hid hb5
  have HW5 := Lib.hid hW5
  have hm' : (m : Int) ≤ 1 := by omega
  clear g0 g1 g2 g3 g4 hW5 hb5 hC
  go_enter Tryz.func148, Tryz.ntmps148
  go_wp2_with fail
  rw [← HW5.out]
  (with_reducible refine (pick_any p A bs c K 4 W5 HC5.out (by omega) (by omega)).mono ?_)
  rintro e w6 ⟨x, rfl, hx0, hx1, hC6, hK6⟩
  have hx1 : x < 4 := hx1 (by omega)
  obtain ⟨g0, g1, g2, g3, g4⟩ := HG.out w6 hK6
  have HC6 := Lib.hid hC6
  have HK6 := Lib.hid ((Kept.of_below HB5.out (fun q => q = p)).trans hK6)
  have G0 := Lib.hid g0
  have G1 := Lib.hid g1
  have G2 := Lib.hid g2
  have G3 := Lib.hid g3
  clear hC6 hK6 g0 g1 g2 g3
  obtain rfl | rfl | rfl | rfl : x = 0 ∨ x = 1 ∨ x = 2 ∨ x = 3 := by omega
  · have s0 := cell_of_row _ _ 0 _ _ _ g4
    clear g4
    go_wp2_with fail
    go_ret
    exact ⟨_, [0], rfl, lit_at G0.out rfl (by unfold maxLen; simp) (by omega), by simp, by simp, HC6.out, HK6.out⟩
  · have s0 := cell_of_row _ _ 1 _ _ _ g4
    clear g4
    go_wp2_with fail
    go_ret
    exact ⟨_, [1, 0], rfl, lit_at G1.out rfl (by unfold maxLen; simp) (by omega), by simp, by simp, HC6.out, HK6.out⟩
  · have s0 := cell_of_row _ _ 2 _ _ _ g4
    clear g4
    go_wp2_with fail
    go_ret
    exact ⟨_, [1, 1], rfl, lit_at G2.out rfl (by unfold maxLen; simp) (by omega), by simp, by simp, HC6.out, HK6.out⟩
  · have s0 := cell_of_row _ _ 3 _ _ _ g4
    clear g4
    go_wp2_with fail
    go_ret
    exact ⟨_, [1, 7], rfl, lit_at G3.out rfl (by unfold maxLen; simp) (by omega), by simp, by simp, HC6.out, HK6.out⟩

theorem ints_oneC (f : List Int) : ∀ y ∈ ints f, y.oneCell' = true := fun y hy => by
  unfold ints at hy
  obtain ⟨x, _, rfl⟩ := List.mem_map.1 hy; rfl

set_option maxRecDepth 100000 in
set_option maxHeartbeats 16000000 in
theorem formula_any (p : Nat) (A : Option Addr) (bs : List Int) (c : Nat) (m : Nat) : ∀ (K : Nat) (w : World), m ≤ 1000 → Cur w p A bs c K → K + 10 * m ≤ 10000000000000 →
    Calls Tryz.prog 148 #[.pointer (some ⟨p, 0, none⟩), .int .i64 m] w fun e w' => ∃ (r : Value) (f : List Int), e = .returned r ∧ w'.ownsRow w.heap.size 3 1 r f.length (ints f) ∧ 1 ≤ f.length ∧ f.length ≤ 4 * m + 2 ∧ Cur w' p A bs c (K + 10 * m + 2) ∧ Kept (fun q => q = p) w w' := by
  induction m using Nat.strongRecOn with
  | ind m ih =>
  intro K w hm hC hK
  by_cases hm1 : m ≤ 1
  · refine (formula_leaf p A bs c m K w hm1 hC (by omega)).mono ?_
    rintro e w' ⟨r, f, h1, h2, h3, h4, h5, h6⟩
    exact ⟨r, f, h1, h2, h3, by omega, h5.mono (by omega), h6⟩
  obtain ⟨k, rfl⟩ : ∃ k, m = k + 1 := ⟨m - 1, by omega⟩
  have hpw := hC.lt
  have IH := Lib.hid ih
  have HC := Lib.hid hC
  have hm' : ¬ ((k + 1 : Nat) : Int) ≤ 1 := by omega
  clear ih hC
  go_enter Tryz.func148, Tryz.ntmps148
  go_wp2_with fail
  (with_reducible refine (pick_any p A bs c K 4 w HC.out (by omega) (by omega)).mono ?_)
  rintro e w1 ⟨y, rfl, hy0, hy1, hC1, hK1⟩
  have hy1 : y < 4 := hy1 (by omega)
  have hs1 := hK1.size
  have HC1 := Lib.hid hC1
  have HK1 := Lib.hid hK1
  clear hC1 hK1
  have hpw1 : p < w1.heap.size := by omega
  rcases (show y = 0 ∨ y = 1 ∨ 2 ≤ y by omega) with rfl | rfl | hy2
  · go_wp2_with fail
    have hb2 := (Below.refl w1.heap.size w1).alloc (Nat.le_refl _) (.cells #[.int .i64 2] 3)
    have hsz2 : (w1.alloc (.cells #[.int .i64 2] 3)).heap.size = w1.heap.size + 1 := by simp
    have HO2 := Lib.hid (ownsRow_lit (n := 1) (xs := ints [2]) (heap_alloc_new w1 (.cells #[.int .i64 2] 3)) rfl (by unfold maxLen; omega))
    (with_reducible refine (IH.out k (by omega) (K + 2) _ (by omega) (HC1.out.below hb2) (by omega)).mono ?_)
    rintro e w3 ⟨r3, f3, rfl, hr3, hf3, hg3, hC3, hK3⟩
    have hs3 := hK3.size
    have HO3 := Lib.hid (owns_mono (owns_kept HO2.out hK3 (fun g hg e => by have := (HO2.out.lt g hg).1; omega)) (show w.heap.size ≤ w1.heap.size by omega))
    have HR3 := Lib.hid hr3
    have HC3 := Lib.hid hC3
    have HK3 := Lib.hid ((HK1.out.below' hb2).trans hK3)
    clear hr3 hC3 hK3
    simp only [World.size_alloc] at hs3
    go_wp2_with (at_builtin; refine wpList_append_row rfl (.tmp 20) (.tmp 24) rfl w.heap.size _ _ _ _ rfl HO3.out r3 f3.length (ints f3) rfl HR3.out (ints_oneC f3) (by omega) (by omega) ?_; intro v4 w4 ho4 hk4)
    have hq4 : ∀ q, (Value.slice (some ⟨w1.heap.size, 0, none⟩) 1 1).ownBlock = some q → w1.heap.size = q := fun q hq => by cases hq; rfl
    go_ret
    refine ⟨v4, 2 :: f3, rfl, ?_, by simp, by simp; omega, (HC3.out.kept hk4 (fun q hq => by have := hq4 q hq; omega)).mono (by omega), HK3.out.newer hk4 (fun q hq => by have := hq4 q hq; omega)⟩
    rw [show (2 :: f3).length = 1 + f3.length by simp; omega]
    exact ho4
  · obtain ⟨a, ha⟩ : ∃ a, a = (k + 1) / 2 := ⟨_, rfl⟩
    obtain ⟨b, hb1, hb2'⟩ : ∃ b, k ≤ a + b ∧ a + b ≤ k := ⟨k - a, by omega, by omega⟩
    have hak : 1 ≤ a := by omega
    have hbk : b ≤ a := by omega
    have ea : ((k : Int) + 1) / 2 = (a : Int) := by omega
    have eb : (k : Int) - (a : Int) = (b : Int) := by omega
    have HEA := Lib.hid ea
    have HEB := Lib.hid eb
    clear ea eb ha
    go_wp2_with fail
    rw [HEA.out]
    have hb2 := (Below.refl w1.heap.size w1).alloc (Nat.le_refl _) (.cells #[.int .i64 3] 3)
    have hsz2 : (w1.alloc (.cells #[.int .i64 3] 3)).heap.size = w1.heap.size + 1 := by simp
    have HO2 := Lib.hid (ownsRow_lit (n := 1) (xs := ints [3]) (heap_alloc_new w1 (.cells #[.int .i64 3] 3)) rfl (by unfold maxLen; omega))
    (with_reducible refine (IH.out a (by omega) (K + 2) _ (by omega) (HC1.out.below hb2) (by omega)).mono ?_)
    rintro e w3 ⟨r3, f3, rfl, hr3, hf3, hg3, hC3, hK3⟩
    have hs3 := hK3.size
    have HO3 := Lib.hid (owns_mono (owns_kept HO2.out hK3 (fun g hg e => by have := (HO2.out.lt g hg).1; omega)) (show w.heap.size ≤ w1.heap.size by omega))
    have HR3 := Lib.hid hr3
    have HC3 := Lib.hid hC3
    have HK3 := Lib.hid ((HK1.out.below' hb2).trans hK3)
    clear hr3 hC3 hK3
    simp only [World.size_alloc] at hs3
    go_wp2_with (at_builtin; refine wpList_append_row rfl (.tmp 28) (.tmp 32) rfl w.heap.size _ _ _ _ rfl HO3.out r3 f3.length (ints f3) rfl HR3.out (ints_oneC f3) (by omega) (by omega) ?_; intro v4 w4 ho4 hk4)
    have hq4 : ∀ q, (Value.slice (some ⟨w1.heap.size, 0, none⟩) 1 1).ownBlock = some q → w1.heap.size = q := fun q hq => by cases hq; rfl
    have HC4 := Lib.hid (HC3.out.kept hk4 (fun q hq => by have := hq4 q hq; omega))
    have HK4 := Lib.hid (HK3.out.newer hk4 (fun q hq => by have := hq4 q hq; omega))
    have hs4 := hk4.size
    have HO4 := Lib.hid ho4
    clear ho4 hk4 hq4
    obtain ⟨B4, c4, rfl, hO4⟩ := owns_form HO4.out
    have HO4 := Lib.hid hO4
    clear hO4
    go_wp2_with fail
    rw [HEA.out, HEB.out]
    (with_reducible refine (IH.out b (by omega) (K + 10 * a + 4) _ (by omega) (HC4.out.mono (by omega)) (by omega)).mono ?_)
    rintro e w5 ⟨r5, f5, rfl, hr5, hf5, hg5, hC5, hK5⟩
    have hs5 := hK5.size
    have HO5 := Lib.hid (owns_kept HO4.out hK5 (fun g hg e => by have := (HO4.out.lt g hg).1; omega))
    have HR5 := Lib.hid hr5
    have HC5 := Lib.hid hC5
    have HK5 := Lib.hid (HK4.out.trans hK5)
    clear hr5 hC5 hK5
    go_wp2_with (at_builtin; refine wpList_append_row rfl (.tmp 33) (.tmp 40) rfl w.heap.size _ _ _ _ rfl HO5.out r5 f5.length (ints f5) rfl HR5.out (ints_oneC f5) (by omega) (by omega) ?_; intro v6 w6 ho6 hk6)
    have hq6 : ∀ q, (Value.slice B4 (1 + f3.length) c4).ownBlock = some q → w.heap.size ≤ q := fun q hq => (HO5.out.lt q hq).1
    go_ret
    refine ⟨v6, 3 :: (f3 ++ f5), rfl, ?_, by simp, by simp; omega, (HC5.out.kept hk6 (fun q hq => by have := hq6 q hq; omega)).mono (by omega), HK5.out.newer hk6 (fun q hq => by have := hq6 q hq; omega)⟩
    rw [show (3 :: (f3 ++ f5)).length = 1 + f3.length + f5.length by simp; omega]
    have e : ints (3 :: (f3 ++ f5)) = ints [3] ++ ints f3 ++ ints f5 := by simp [ints]
    rw [e]
    exact ho6
  · have hn0 : (y == 0) = false := by rw [beq_eq_false_iff_ne]; omega
    have hn1 : (y == 1) = false := by rw [beq_eq_false_iff_ne]; omega
    go_wp2_with fail
    (with_reducible refine (pick_any p A bs c (K + 2) 2 w1 HC1.out (by omega) (by omega)).mono ?_)
    rintro e w2 ⟨z, rfl, hz0, hz1, hC2, hK2⟩
    have hs2' := hK2.size
    have HC2 := Lib.hid hC2
    have HK2 := Lib.hid (HK1.out.trans hK2)
    clear hC2 hK2
    go_wp2_with fail
    have hb5 := (Below.refl w2.heap.size w2).alloc (Nat.le_refl _) (.cells #[.int .i64 4, .int .i64 z] 3)
    have hsz5 : (w2.alloc (.cells #[.int .i64 4, .int .i64 z] 3)).heap.size = w2.heap.size + 1 := by simp
    have HO5 := Lib.hid (ownsRow_lit (n := 2) (xs := ints [4, z]) (heap_alloc_new w2 (.cells #[.int .i64 4, .int .i64 z] 3)) rfl (by unfold maxLen; omega))
    (with_reducible refine (IH.out k (by omega) (K + 4) _ (by omega) (HC2.out.below hb5) (by omega)).mono ?_)
    rintro e w3 ⟨r3, f3, rfl, hr3, hf3, hg3, hC3, hK3⟩
    have hs3 := hK3.size
    have HO3 := Lib.hid (owns_mono (owns_kept HO5.out hK3 (fun g hg e => by have := (HO5.out.lt g hg).1; omega)) (show w.heap.size ≤ w2.heap.size by omega))
    have HR3 := Lib.hid hr3
    have HC3 := Lib.hid hC3
    have HK3 := Lib.hid ((HK2.out.below' hb5).trans hK3)
    clear hr3 hC3 hK3
    simp only [World.size_alloc] at hs3
    go_wp2_with (at_builtin; refine wpList_append_row rfl (.tmp 44) (.tmp 48) rfl w.heap.size _ _ _ _ rfl HO3.out r3 f3.length (ints f3) rfl HR3.out (ints_oneC f3) (by omega) (by omega) ?_; intro v4 w4 ho4 hk4)
    have hq4 : ∀ q, (Value.slice (some ⟨w2.heap.size, 0, none⟩) 2 2).ownBlock = some q → w2.heap.size = q := fun q hq => by cases hq; rfl
    go_ret
    refine ⟨v4, 4 :: z :: f3, rfl, ?_, by simp, by simp; omega, (HC3.out.kept hk4 (fun q hq => by have := hq4 q hq; omega)).mono (by omega), HK3.out.newer hk4 (fun q hq => by have := hq4 q hq; omega)⟩
    rw [show (4 :: z :: f3).length = 2 + f3.length by simp; omega]
    exact ho4

end Go.Proofs.YtdgnhfhaaghoaaaGreatDoor
