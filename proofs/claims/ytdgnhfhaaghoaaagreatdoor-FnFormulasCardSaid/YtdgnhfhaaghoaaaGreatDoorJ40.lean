/- A formula drawn, now and then a wrong one: (*l1Cur).wrong11. -/
import Derived.Test.YtdgnhfhaaghoaaaGreatDoorProg
import Derived.Test.YtdgnhfhaaghoaaaGreatDoorJ39
import Derived.Test.YtdgnhfhaaghoaaaGreatDoorJ33
import Derived.Test.YtdgnhfhaaghoaaaGreatDoorJ38
set_option linter.unusedSimpArgs false
set_option linter.unusedVariables false
namespace Go.Proofs.YtdgnhfhaaghoaaaGreatDoor
open Go.RowKit

theorem owns_setI {W : World} {B g n c : Nat} {o : List Int} (h : W.ownsRow B 3 1 (.slice (some ⟨g, 0, none⟩) n c) n (ints o)) {k : Nat} (hk : k < n) (y : Int) : (W.setCell ⟨g, k, none⟩ (.int .i64 y)).ownsRow B 3 1 (.slice (some ⟨g, 0, none⟩) n c) n (ints (o.set k y)) := by
  have hst := (h.stored k (.int .i64 y)).1
  have e2 : (ints o).set k (.int .i64 y) = ints (o.set k y) := by simp [ints, List.map_set]
  rwa [e2] at hst
theorem own_atI {W : World} {B g n c : Nat} {o : List Int} (h : W.ownsRow B 3 1 (.slice (some ⟨g, 0, none⟩) n c) n (ints o)) (hl : o.length = n) {k : Nat} (hk : k < n) : W.cell? ⟨g, k, none⟩ = some (.int .i64 (o.getD k 0)) ∧ W.frozen? ⟨g, k, none⟩ = false := by
  have hcell := h.cellAt k (by omega)
  rw [getElem?_ints _ _ (by rw [hl]; exact hk)] at hcell
  exact ⟨hcell, h.frozenAt k⟩
def lenV : Value → Nat
  | .slice _ n _ => n
  | _ => 0

set_option maxRecDepth 100000 in
set_option maxHeartbeats 16000000 in
theorem wrong11_any (p : Nat) (A : Option Addr) (bs : List Int) (c K : Nat) (w : World) (hC : Cur w p A bs c K) (hK : K ≤ 1000000000000) :
    Calls Tryz.prog 78 #[.pointer (some ⟨p, 0, none⟩)] w fun e w' => ∃ (r : Value) (f : List Int), e = .returned r ∧ w'.ownsRow w.heap.size 3 1 r f.length (ints f) ∧ f.length ≤ 300 ∧ Cur w' p A bs c (K + 200) ∧ Kept (fun q => q = p) w w' := by
  have hpw := hC.lt
  have hb1 := (Below.refl w.heap.size w).alloc (Nat.le_refl _) (.cells (ints [1, 2, 3, 5, 8, 3]).toArray 3)
  have h1 := among_any p A bs c K (some ⟨w.heap.size, 0, none⟩) 6 [1, 2, 3, 5, 8, 3] _ (hC.below hb1) (by omega) (by simp) (by simp) (cells_of_heap (heap_alloc_new _ _)) (fun b' o' e => by cases e; omega)
  have H1 := Lib.hid (show Calls Tryz.prog 104 #[.pointer (some ⟨p, 0, none⟩), .slice (some ⟨w.heap.size, 0, none⟩) 6 6] (w.alloc (.cells #[.int .i64 1, .int .i64 2, .int .i64 3, .int .i64 5, .int .i64 8, .int .i64 3] 3)) _ from h1)
  have HB1 := Lib.hid (show Below w.heap.size w (w.alloc (.cells #[.int .i64 1, .int .i64 2, .int .i64 3, .int .i64 5, .int .i64 8, .int .i64 3] 3)) from hb1)
  clear h1 hb1 hC
  go_enter Tryz.func78, Tryz.ntmps78
  go_wp2_with fail
  (with_reducible refine H1.out.mono ?_)
  rintro e w2 ⟨x, rfl, hx, hC2, hK2⟩
  obtain ⟨n, hn, hn8⟩ : ∃ n : Nat, x = (n : Int) ∧ n ≤ 8 := by
    simp only [List.mem_cons, List.not_mem_nil, or_false] at hx
    rcases hx with rfl | rfl | rfl | rfl | rfl | rfl
    · exact ⟨1, rfl, by omega⟩
    · exact ⟨2, rfl, by omega⟩
    · exact ⟨3, rfl, by omega⟩
    · exact ⟨5, rfl, by omega⟩
    · exact ⟨8, rfl, by omega⟩
    · exact ⟨3, rfl, by omega⟩
  subst hn
  have HK2 := Lib.hid ((Kept.of_below HB1.out (fun q => q = p)).trans hK2)
  have HC2 := Lib.hid hC2
  have hs2 := HK2.out.size
  clear hx hC2 hK2 H1 HB1
  go_wp2_with fail
  (with_reducible refine (formula_any p A bs c n (K + 2) w2 (by omega) HC2.out (by omega)).mono ?_)
  rintro e w3 ⟨r, f, rfl, hr, hf1, hf2, hC3, hK3⟩
  have HK3 := Lib.hid (HK2.out.trans hK3)
  have HC3 := Lib.hid (hC3.mono (show K + 2 + 10 * n + 2 ≤ K + 100 by omega))
  obtain ⟨R, cR, rfl, hr⟩ := owns_form hr
  obtain ⟨g, rfl, hgc⟩ := owns_cap hr (by omega)
  have HR3 := Lib.hid (owns_mono hr hs2)
  have hs3 := HK3.out.size
  have hf3 : f.length ≤ 40 := by omega
  clear hr hC3 hK3 hf2
  go_wp2_with fail
  (with_reducible refine (pick_any p A bs c (K + 100) 16 w3 HC3.out (by omega) (by omega)).mono ?_)
  rintro e w4 ⟨y, rfl, hy0, hy1, hC4, hK4⟩
  have HK4 := Lib.hid (HK3.out.trans hK4)
  have HC4 := Lib.hid hC4
  have HR4 := Lib.hid (owns_kept HR3.out hK4 (fun q hq e => by have := (HR3.out.lt q hq).1; omega))
  have hs4 := HK4.out.size
  clear hC4 hK4 hy1 HC3 HK3 HR3 HC2 HK2
  rcases (show y = 0 ∨ y = 1 ∨ y = 2 ∨ y = 3 ∨ 4 ≤ y by omega) with rfl | rfl | rfl | rfl | hy
  · go_wp2_with (at_builtin; refine wpList_app el_int rfl _ _ rfl w.heap.size _ _ _ rfl HR4.out [.int .i64 0] rfl rfl rfl (one1 rfl) (by omega) (by omega) ?_; intro v5 w5 ho5 hk5 hm5)
    have hq5 : ∀ q, (Value.slice (some ⟨g, 0, none⟩) f.length cR).ownBlock = some q → w.heap.size ≤ q := fun q hq => (HR4.out.lt q hq).1
    go_ret
    refine ⟨v5, f ++ [0], rfl, ?_, by simp; omega, (HC4.out.kept hk5 (fun q hq => by have := hq5 q hq; omega)).mono (by omega), HK4.out.newer hk5 hq5⟩
    rw [show (f ++ [(0 : Int)]).length = f.length + 1 by simp, show ints (f ++ [(0 : Int)]) = ints f ++ [.int .i64 0] by simp [ints]]
    exact ho5
  · go_wp2_with fail
    (with_reducible refine (pick_any p A bs c (K + 102) (f.length : Int) w4 HC4.out (by omega) (by omega)).mono ?_)
    rintro e w5 ⟨z, rfl, hz0, hz1, hC5, hK5⟩
    have hz1 : z < f.length := hz1 (by omega)
    obtain ⟨k, rfl⟩ : ∃ k : Nat, z = (k : Int) := Int.eq_ofNat_of_zero_le hz0
    have hkl : k < f.length := by omega
    have HK5 := Lib.hid (HK4.out.trans hK5)
    have HR5 := Lib.hid (owns_kept HR4.out hK5 (fun q hq e => by have := (HR4.out.lt q hq).1; omega))
    have hs5 := HK5.out.size
    have hb6 := (Below.refl w5.heap.size w5).alloc (Nat.le_refl _) (.cells (ints [-1, 5, 8, 0, 2, 3]).toArray 3)
    have h6 := among_any p A bs c (K + 104) (some ⟨w5.heap.size, 0, none⟩) 6 [-1, 5, 8, 0, 2, 3] _ (hC5.below hb6) (by omega) (by simp) (by simp) (cells_of_heap (heap_alloc_new _ _)) (fun b' o' e => by cases e; omega)
    have H6 := Lib.hid (show Calls Tryz.prog 104 #[.pointer (some ⟨p, 0, none⟩), .slice (some ⟨w5.heap.size, 0, none⟩) 6 6] (w5.alloc (.cells #[.int .i64 (-1), .int .i64 5, .int .i64 8, .int .i64 0, .int .i64 2, .int .i64 3] 3)) _ from h6)
    have HB6 := Lib.hid (show Below w5.heap.size w5 (w5.alloc (.cells #[.int .i64 (-1), .int .i64 5, .int .i64 8, .int .i64 0, .int .i64 2, .int .i64 3] 3)) from hb6)
    clear h6 hb6 hC5 hK5 hz0 hz1
    go_wp2_with fail
    (with_reducible refine H6.out.mono ?_)
    rintro e w7 ⟨y, rfl, hy, hC7, hK7⟩
    have HK7 := Lib.hid ((HK5.out.below' HB6.out).trans hK7)
    have hR7 := owns_kept (owns_below HR5.out HB6.out (Nat.le_refl _)) hK7 (fun q hq e => by have := (HR5.out.lt q hq).1; omega)
    have HR7 := Lib.hid hR7
    have HC7 := Lib.hid hC7
    obtain ⟨cz, fz⟩ := own_atI hR7 rfl hkl
    have hgB := (hR7.lt g rfl).1
    clear hy hC7 hK7 hR7
    go_wp2_with fail
    have hk8 : Kept (fun q => q = g) w7 (w7.setCell ⟨g, k, none⟩ (.int .i64 y)) := (Kept.refl (fun q => q = g) w7).setCell (S := fun q => q = g) (p := ⟨g, k, none⟩) rfl _
    go_ret
    exact ⟨_, f.set k y, rfl, by rw [List.length_set]; exact owns_setI HR7.out hkl y, by rw [List.length_set]; omega, (HC7.out.kept hk8 (fun q hq => by omega)).mono (by omega), HK7.out.newer hk8 (fun q hq => by omega)⟩
  · obtain ⟨m, hm⟩ : ∃ m, f.length = m + 1 := ⟨f.length - 1, by omega⟩
    have HM := Lib.hid hm
    have hml : m ≤ 300 := by omega
    have hmc : (m : Int) ≤ (cR : Int) := by omega
    rw [hm] at HR4 ⊢
    clear hm hf1 hf3
    go_wp2_with fail
    go_ret
    have h5 := owns_take HR4.out (show m ≤ m + 1 by omega)
    exact ⟨_, f.take m, rfl, by rw [show (f.take m).length = m by rw [List.length_take, HM.out]; omega, show ints (f.take m) = (ints f).take (m * 1) by simp [ints, List.map_take]]; exact h5, by rw [List.length_take]; omega, HC4.out.mono (by omega), HK4.out⟩
  · go_wp2_with fail
    (with_reducible refine (pick_any p A bs c (K + 102) 3 w4 HC4.out (by omega) (by omega)).mono ?_)
    rintro e w5 ⟨z, rfl, hz0, hz1, hC5, hK5⟩
    have hz1 : z < 3 := hz1 (by omega)
    have HK5 := Lib.hid (HK4.out.trans hK5)
    have HC5 := Lib.hid hC5
    have HR5 := Lib.hid (owns_kept HR4.out hK5 (fun q hq e => by have := (HR4.out.lt q hq).1; omega))
    have hs5 := HK5.out.size
    clear hC5 hK5 HK4 HC4 HR4
    go_wp2_with fail
    go_loopw [3] (fun r wr => ∃ f : List Int, f.length ≤ 260 ∧ wr.ownsRow w.heap.size 3 1 r f.length (ints f) ∧ Cur wr p A bs c (K + 104) ∧ Kept (fun q => q = p) w wr)
      (fun r _ => 300 - lenV r)
    case atStart => exact ⟨f, by omega, HR5.out, HC5.out, HK5.out⟩
    case round =>
      obtain ⟨h, hh, hr, hC, hK⟩ := hrel
      obtain ⟨R2, c2, rfl, hr⟩ := owns_form hr
      have HR := Lib.hid hr
      have HC := Lib.hid hC
      have HK := Lib.hid hK
      have hsr := hK.size
      clear hr hC hK HR5 HC5 HK5
      by_cases hlt : (h.length : Int) < 199 + z
      · have hb7 := (Below.refl wr.heap.size wr).alloc (Nat.le_refl _) (.cells #[.int .i64 2] 3)
        have HB7 := Lib.hid hb7
        have HO7 := Lib.hid (owns_mono (ownsRow_lit (n := 1) (xs := ints [2]) (heap_alloc_new wr (.cells #[.int .i64 2] 3)) rfl (by unfold maxLen; omega)) hsr)
        have HR7 := Lib.hid (owns_below HR.out hb7 (Nat.le_refl _))
        have hs7 : (wr.alloc (.cells #[.int .i64 2] 3)).heap.size = wr.heap.size + 1 := by simp
        clear hb7
        go_wp2_with (at_builtin; refine wpList_append_row rfl _ _ rfl w.heap.size _ _ _ _ rfl HO7.out (.slice R2 h.length c2) h.length (ints h) rfl HR7.out (ints_oneC h) (by omega) (by omega) ?_; intro v8 w8 ho8 hk8)
        have hq8 : ∀ q, (Value.slice (some ⟨wr.heap.size, 0, none⟩) 1 1).ownBlock = some q → wr.heap.size = q := fun q hq => by cases hq; rfl
        have hpr := HC.out.lt
        have hl8 : lenV v8 = 1 + h.length := by obtain ⟨a, b, rfl, _⟩ := owns_form ho8; rfl
        go_roundw
        case rel => exact ⟨2 :: h, by simp; omega, by rw [show (2 :: h).length = 1 + h.length by simp; omega]; exact ho8, (HC.out.below HB7.out).kept hk8 (fun q hq => by have := hq8 q hq; omega), (HK.out.below' HB7.out).newer hk8 (fun q hq => by have := hq8 q hq; omega)⟩
        case measure => rw [hl8]; simp [lenV]; omega
      · go_wp2_with fail
        go_ret
        first | exact ⟨_, rfl, h, HR.out, by omega, HC.out.mono (by omega), HK.out⟩ | exact ⟨_, h, rfl, HR.out, by omega, HC.out.mono (by omega), HK.out⟩
  · have n0 : (y == 0) = false := by rw [beq_eq_false_iff_ne]; omega
    have n1 : (y == 1) = false := by rw [beq_eq_false_iff_ne]; omega
    have n2 : (y == 2) = false := by rw [beq_eq_false_iff_ne]; omega
    have n3 : (y == 3) = false := by rw [beq_eq_false_iff_ne]; omega
    go_wp2_with fail
    go_ret
    exact ⟨_, f, rfl, HR4.out, by omega, HC4.out.mono (by omega), HK4.out⟩

end Go.Proofs.YtdgnhfhaaghoaaaGreatDoor
