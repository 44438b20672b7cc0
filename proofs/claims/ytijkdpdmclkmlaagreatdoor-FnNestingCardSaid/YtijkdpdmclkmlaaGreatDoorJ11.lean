/- The draws' cursor: next, pick, one, among: walked; only how large the numbers are is told. -/
import Derived.Test.YtijkdpdmclkmlaaGreatDoorProg
import Derived.Test.YtijkdpdmclkmlaaGreatDoorJ0
import Derived.Laws.BitsAllLaws
set_option linter.unusedSimpArgs false
set_option linter.unusedVariables false
set_option maxRecDepth 100000
set_option maxHeartbeats 16000000
namespace Go.Proofs.YtijkdpdmclkmlaaGreatDoor
open Go.RowKit
abbrev u8s (bs : List Int) : List Value := bs.map (Value.int .u8)
/-- A cursor in block p, over a code that lies below it; at most K bytes have been asked for. -/
structure Cur (w : World) (p : Nat) (A : Option Addr) (bs : List Int) (c K : Nat) : Prop where
  box : ∃ i sd : Int, w.heap[p]? = some (.cells #[.slice A bs.length c, .int .i64 i, .int .u64 sd] 72) ∧ 0 ≤ i ∧ i ≤ K ∧ 0 ≤ sd ∧ sd < 18446744073709551616
  code : Cells w A (u8s bs)
  low : ∀ b o, A = some ⟨b, o, none⟩ → bs ≠ [] → b < p
  rng : ∀ x ∈ bs, 0 ≤ x ∧ x < 256
  len : bs.length ≤ 1000000000000

section
variable {w w' : World} {p c K : Nat} {A : Option Addr} {bs : List Int}
theorem Cur.lt (h : Cur w p A bs c K) : p < w.heap.size := by
  obtain ⟨i, sd, hb, _⟩ := h.box
  exact (Array.getElem?_eq_some_iff.1 hb).1
theorem Cur.kept {S : Nat → Prop} (h : Cur w p A bs c K) (hk : Kept S w w') (hS : ∀ q, S q → p < q) : Cur w' p A bs c K := by
  obtain ⟨i, sd, hb, r⟩ := h.box
  refine { box := ⟨i, sd, (hk.block p h.lt (fun e => by have := hS p e; omega)).trans hb, r⟩, code := fun j u hj => ?_, low := h.low, rng := h.rng, len := h.len }
  obtain ⟨b, o, e, hc⟩ := h.code j u hj
  have hl := h.low b o e (fun e => by subst e; simp at hj)
  exact ⟨b, o, e, (World.cell?_of_block (a := ⟨b, o + j, none⟩) (hk.block b (lt_of_cell hc) (fun e => by have := hS b e; omega))).trans hc⟩
theorem Cur.below (h : Cur w p A bs c K) (hb : Below w.heap.size w w') : Cur w' p A bs c K := by
  have hl := h.lt
  exact h.kept (S := fun q => w.heap.size ≤ q) (Kept.of_below hb _) (fun q hq => by omega)
theorem Cur.mono {K' : Nat} (h : Cur w p A bs c K) (hk : K ≤ K') : Cur w p A bs c K' := by
  obtain ⟨i, sd, hb, h1, h2, h3, h4⟩ := h.box
  exact { h with box := ⟨i, sd, hb, h1, by omega, h3, h4⟩ }
end

/-- A new cursor at the beginning of a code. -/
theorem Cur.start {w : World} {A : Option Addr} {bs : List Int} {c : Nat} (hA : Cells w A (u8s bs)) (hrng : ∀ x ∈ bs, 0 ≤ x ∧ x < 256) (hlen : bs.length ≤ 1000000000000) :
    Cur (w.alloc (.cells #[.slice A bs.length c, .int .i64 0, .int .u64 0] 72)) w.heap.size A bs c 0 :=
  { box := ⟨0, 0, heap_alloc_new _ _, by omega, by omega, by omega, by omega⟩, code := hA.below ((Below.refl _ _).alloc (Nat.le_refl _) _), low := fun b o e hne => by
      obtain ⟨x, r, rfl⟩ := List.exists_cons_of_ne_nil hne
      obtain ⟨b', o', e', hc⟩ := hA 0 (.int .u8 x) rfl
      rw [e] at e'
      cases e'
      exact lt_of_cell hc, rng := hrng, len := hlen }

theorem wrapU_range (n : Int) : 0 ≤ IntKind.u64.wrap n ∧ IntKind.u64.wrap n < 18446744073709551616 := by
  rw [IntKind.wrap_u64]; omega
theorem seed_byte {S : Int} (h0 : 0 ≤ S) (h1 : S < 18446744073709551616) : 0 ≤ wrap64 (bits BinOp.and IntKind.u64 (S / 1099511627776) 255) ∧ wrap64 (bits BinOp.and IntKind.u64 (S / 1099511627776) 255) ≤ 255 := by
  obtain ⟨a, ha⟩ : ∃ a : Nat, S / 1099511627776 = (a : Int) := Int.eq_ofNat_of_zero_le (by omega)
  have ha2 : a < 18446744073709551616 := by omega
  rw [ha, show (255 : Int) = ((255 : Nat) : Int) from rfl, u64_and_nat a 255 ha2 (by omega)]
  have hm : a &&& 255 = a % 256 := Nat.and_two_pow_sub_one_eq_mod a 8
  have hw : wrap64 (((a &&& 255 : Nat)) : Int) = ((a &&& 255 : Nat) : Int) := by rw [hm]; unfold wrap64; omega
  rw [hw, hm]
  omega
theorem Cur.stored {w : World} {p c K : Nat} {A : Option Addr} {bs : List Int} {i S S0 : Int} (h : Cur w p A bs c K) (hb : w.heap[p]? = some (.cells #[.slice A bs.length c, .int .i64 i, .int .u64 S0] 72)) (h0 : 0 ≤ i) (hi : i ≤ K) (hS : 0 ≤ S ∧ S < 18446744073709551616) :
    Cur ((w.setCell ⟨p, 1, none⟩ (.int .i64 (i + 1))).setCell ⟨p, 2, none⟩ (.int .u64 S)) p A bs c (K + 1) ∧ Kept (fun q => q = p) w ((w.setCell ⟨p, 1, none⟩ (.int .i64 (i + 1))).setCell ⟨p, 2, none⟩ (.int .u64 S)) ∧
      ((w.setCell ⟨p, 1, none⟩ (.int .i64 (i + 1))).setCell ⟨p, 2, none⟩ (.int .u64 S)).heap[p]? = some (.cells #[.slice A bs.length c, .int .i64 (i + 1), .int .u64 S] 72) := by
  have h1 := heap_setCell_same w p 1 _ _ (.int .i64 (i + 1)) hb
  have h2 := heap_setCell_same _ p 2 _ _ (.int .u64 S) h1
  have hk : Kept (fun q => q = p) w ((w.setCell ⟨p, 1, none⟩ (.int .i64 (i + 1))).setCell ⟨p, 2, none⟩ (.int .u64 S)) := Kept.setCell (S := fun q => q = p) (Kept.setCell (S := fun q => q = p) (Kept.refl _ w) (p := ⟨p, 1, none⟩) rfl _) (p := ⟨p, 2, none⟩) rfl _
  refine ⟨{ box := ⟨i + 1, S, h2, by omega, by omega, hS.1, hS.2⟩, code := fun j u hj => ?_, low := h.low, rng := h.rng, len := h.len }, hk, h2⟩
  obtain ⟨b, o, e, hc⟩ := h.code j u hj
  have hl := h.low b o e (fun e => by subst e; simp at hj)
  exact ⟨b, o, e, (World.cell?_of_block (a := ⟨b, o + j, none⟩) (hk.block b (lt_of_cell hc) (fun e => by omega))).trans hc⟩

theorem next_any (p : Nat) (A : Option Addr) (bs : List Int) (c K : Nat) (w : World) (h : Cur w p A bs c K) (hK : K ≤ 1000000000000000) :
    Calls Tryz.prog 180 #[.pointer (some ⟨p, 0, none⟩)] w fun e w' => ∃ x : Int, e = .returned (.int .i64 x) ∧ 0 ≤ x ∧ x ≤ 255 ∧ Cur w' p A bs c (K + 1) ∧ Kept (fun q => q = p) w w' := by
  obtain ⟨i, sd, hbox, hi0, hiK, hs0, hs1⟩ := h.box
  have c0 : w.cell? ⟨p, 0, none⟩ = some (.slice A bs.length c) := cell_of_row w _ 0 _ _ _ hbox
  have c1 : w.cell? ⟨p, 1, none⟩ = some (.int .i64 i) := cell_of_row w _ 1 _ _ _ hbox
  have c2 : w.cell? ⟨p, 2, none⟩ = some (.int .u64 sd) := cell_of_row w _ 2 _ _ _ hbox
  have f1 := frozen_of_row w _ 1 _ _ hbox
  have f2 := frozen_of_row w _ 2 _ _ hbox
  have hlen := h.len
  have HH := Lib.hid h
  by_cases hlt : i < (bs.length : Int)
  · obtain ⟨j, rfl⟩ := Int.eq_ofNat_of_zero_le hi0
    obtain ⟨b, o, eA, hc⟩ := h.code j (.int .u8 (bs.getD j 0)) (by simp [List.getD, show j < bs.length by omega])
    subst eA
    have hx := h.rng (bs.getD j 0) (by simp [List.getD, show j < bs.length by omega])
    clear h
    generalize bs.getD j 0 = x at *
    go_enter Tryz.func180, Tryz.ntmps180
    go_wp2_with fail
    go_quiet (fail)
    obtain ⟨W1, hW1⟩ : ∃ W1, W1 = w.drewN nq := ⟨_, rfl⟩
    have hK1 : Kept (fun q => q = p) w W1 := by rw [hW1]; exact Kept.of_below (below_drewN' (Below.refl _ _) nq) _
    have hbox1 : W1.heap[p]? = some (.cells #[.slice (some ⟨b, o, none⟩) bs.length c, .int .i64 (j : Int), .int .u64 sd] 72) := by rw [hW1]; exact hbox
    have hC1 : Cur W1 p (some ⟨b, o, none⟩) bs c K := by rw [hW1]; exact HH.out.below (below_drewN' (Below.refl _ _) nq)
    have hcx : W1.cell? ⟨b, o + j, none⟩ = some (.int .u8 x) := by rw [hW1]; exact hc
    rw [← hW1]
    clear hW1 c0 c1 c2 f1 f2 hc
    have c0 : W1.cell? ⟨p, 0, none⟩ = some (.slice (some ⟨b, o, none⟩) bs.length c) := cell_of_row W1 _ 0 _ _ _ hbox1
    have c1 : W1.cell? ⟨p, 1, none⟩ = some (.int .i64 (j : Int)) := cell_of_row W1 _ 1 _ _ _ hbox1
    go_wp2_with fail
    go_quiet (fail)
    obtain ⟨W2, hW2⟩ : ∃ W2, W2 = W1.drewN nq := ⟨_, rfl⟩
    have hK2 : Kept (fun q => q = p) w W2 := by rw [hW2]; exact hK1.trans (Kept.of_below (below_drewN' (Below.refl _ _) nq) _)
    have hbox2 : W2.heap[p]? = some (.cells #[.slice (some ⟨b, o, none⟩) bs.length c, .int .i64 (j : Int), .int .u64 sd] 72) := by rw [hW2]; exact hbox1
    have hC2 : Cur W2 p (some ⟨b, o, none⟩) bs c K := by rw [hW2]; exact hC1.below (below_drewN' (Below.refl _ _) nq)
    rw [← hW2]
    clear hW2 c0 c1 hbox1 hC1 hcx hK1
    have c0 : W2.cell? ⟨p, 0, none⟩ = some (.slice (some ⟨b, o, none⟩) bs.length c) := cell_of_row W2 _ 0 _ _ _ hbox2
    have c1 : W2.cell? ⟨p, 1, none⟩ = some (.int .i64 (j : Int)) := cell_of_row W2 _ 1 _ _ _ hbox2
    have c2 : W2.cell? ⟨p, 2, none⟩ = some (.int .u64 sd) := cell_of_row W2 _ 2 _ _ _ hbox2
    have f1 := frozen_of_row W2 _ 1 _ _ hbox2
    have f2 := frozen_of_row W2 _ 2 _ _ hbox2
    go_wp2_with fail
    have hwr := wrapU_range (IntKind.u64.wrap (IntKind.u64.wrap (sd * 6364136223846793005) + x) + 462197)
    generalize IntKind.u64.wrap (IntKind.u64.wrap (IntKind.u64.wrap (sd * 6364136223846793005) + x) + 462197) = S at *
    obtain ⟨hC3, hK3, hb3⟩ := hC2.stored hbox2 hi0 (by omega) hwr
    obtain ⟨W3, hW3⟩ : ∃ W3, W3 = (W2.setCell ⟨p, 1, none⟩ (.int .i64 ((j : Int) + 1))).setCell ⟨p, 2, none⟩ (.int .u64 S) := ⟨_, rfl⟩
    rw [← hW3] at hC3 hK3 hb3 ⊢
    have HC3 := Lib.hid hC3
    have HK3 := Lib.hid (hK2.trans hK3)
    clear hW3 c0 c1 c2 f1 f2 hbox2 hC2 hK2 hC3 hK3
    have c0 : W3.cell? ⟨p, 0, none⟩ = some (.slice (some ⟨b, o, none⟩) bs.length c) := cell_of_row W3 _ 0 _ _ _ hb3
    have c1 : W3.cell? ⟨p, 1, none⟩ = some (.int .i64 ((j : Int) + 1)) := cell_of_row W3 _ 1 _ _ _ hb3
    have hle : ((j : Int) + 1) ≤ (bs.length : Int) := by omega
    go_quiet (fail)
    have HC4 := Lib.hid (HC3.out.below (below_drewN' (Below.refl _ _) nq))
    have HK4 := Lib.hid (HK3.out.trans (Kept.of_below (below_drewN' (Below.refl _ _) nq) _))
    go_wp2_with fail
    go_ret
    exact ⟨_, rfl, hx.1, by omega, HC4.out, HK4.out⟩
  clear h
  go_enter Tryz.func180, Tryz.ntmps180
  go_wp2_with fail
  go_quiet (fail)
  obtain ⟨W2, hW2⟩ : ∃ W2, W2 = w.drewN nq := ⟨_, rfl⟩
  have hK2 : Kept (fun q => q = p) w W2 := by rw [hW2]; exact Kept.of_below (below_drewN' (Below.refl _ _) nq) _
  have hbox2 : W2.heap[p]? = some (.cells #[.slice A bs.length c, .int .i64 i, .int .u64 sd] 72) := by rw [hW2]; exact hbox
  have hC2 : Cur W2 p A bs c K := by rw [hW2]; exact HH.out.below (below_drewN' (Below.refl _ _) nq)
  rw [← hW2]
  clear hW2 c0 c1 c2 f1 f2
  have c0 : W2.cell? ⟨p, 0, none⟩ = some (.slice A bs.length c) := cell_of_row W2 _ 0 _ _ _ hbox2
  have c1 : W2.cell? ⟨p, 1, none⟩ = some (.int .i64 i) := cell_of_row W2 _ 1 _ _ _ hbox2
  have c2 : W2.cell? ⟨p, 2, none⟩ = some (.int .u64 sd) := cell_of_row W2 _ 2 _ _ _ hbox2
  have f1 := frozen_of_row W2 _ 1 _ _ hbox2
  have f2 := frozen_of_row W2 _ 2 _ _ hbox2
  go_wp2_with fail
  have hwr := wrapU_range (IntKind.u64.wrap (IntKind.u64.wrap (sd * 6364136223846793005)) + 462197)
  generalize IntKind.u64.wrap (IntKind.u64.wrap (IntKind.u64.wrap (sd * 6364136223846793005)) + 462197) = S at *
  obtain ⟨hC3, hK3, hb3⟩ := hC2.stored hbox2 hi0 (by omega) hwr
  obtain ⟨W3, hW3⟩ : ∃ W3, W3 = (W2.setCell ⟨p, 1, none⟩ (.int .i64 (i + 1))).setCell ⟨p, 2, none⟩ (.int .u64 S) := ⟨_, rfl⟩
  rw [← hW3] at hC3 hK3 hb3 ⊢
  have HC3 := Lib.hid hC3
  have HK3 := Lib.hid (hK2.trans hK3)
  clear hW3 c0 c1 c2 f1 f2 hbox2 hC2 hK2 hC3 hK3
  have c0 : W3.cell? ⟨p, 0, none⟩ = some (.slice A bs.length c) := cell_of_row W3 _ 0 _ _ _ hb3
  have c1 : W3.cell? ⟨p, 1, none⟩ = some (.int .i64 (i + 1)) := cell_of_row W3 _ 1 _ _ _ hb3
  have hle : ¬ (i + 1) ≤ (bs.length : Int) := by omega
  go_quiet (fail)
  have HC4 := Lib.hid (HC3.out.below (below_drewN' (Below.refl _ _) nq))
  have HK4 := Lib.hid (HK3.out.trans (Kept.of_below (below_drewN' (Below.refl _ _) nq) _))
  have c2 : (W3.drewN nq).cell? ⟨p, 2, none⟩ = some (.int .u64 S) := cell_of_row W3 _ 2 _ _ _ hb3
  go_wp2_with fail
  have hsb := seed_byte hwr.1 hwr.2
  go_ret
  exact ⟨_, rfl, hsb.1, hsb.2, HC4.out, HK4.out⟩

theorem pick_any (p : Nat) (A : Option Addr) (bs : List Int) (c K : Nat) (n : Int) (w : World) (h : Cur w p A bs c K) (hK : K ≤ 100000000000000) (hn : n ≤ 1000000000) :
    Calls Tryz.prog 97 #[.pointer (some ⟨p, 0, none⟩), .int .i64 n] w fun e w' => ∃ x : Int, e = .returned (.int .i64 x) ∧ 0 ≤ x ∧ (1 ≤ n → x < n) ∧ Cur w' p A bs c (K + 2) ∧ Kept (fun q => q = p) w w' := by
  have HH := Lib.hid h
  have HN := Lib.hid (fun K w (h : Cur w p A bs c K) (hK : K ≤ 1000000000000000) => next_any p A bs c K w h hK)
  clear h
  by_cases h1 : n ≤ 1
  · have HM := Lib.hid (HH.out.mono (K' := K + 2) (by omega))
    go_enter Tryz.func97, Tryz.ntmps97
    go_wp2_with fail
    go_ret
    exact ⟨_, rfl, Int.le_refl _, fun h => by omega, HM.out, Kept.refl _ _⟩
  have HN1 := Lib.hid (HN.out K w HH.out (by omega))
  by_cases h2 : 200 < n
  · go_enter Tryz.func97, Tryz.ntmps97
    go_wp2_with fail
    (with_reducible refine HN1.out.mono ?_)
    rintro e w1 ⟨x, rfl, hx0, hx1, hC1, hK1⟩
    have HN2 := Lib.hid (HN.out (K + 1) w1 hC1 (by omega))
    have HK1 := Lib.hid hK1
    clear hC1 hK1
    go_wp2_with fail
    (with_reducible refine HN2.out.mono ?_)
    rintro e w2 ⟨y, rfl, hy0, hy1, hC2, hK2⟩
    have HC2 := Lib.hid hC2
    have HK2 := Lib.hid (HK1.out.trans hK2)
    have hz : 0 ≤ x * 256 + y := by omega
    have hmod : (x * 256 + y).tmod n = (x * 256 + y) % n := Int.tmod_eq_emod_of_nonneg hz
    have hm0 := Int.emod_nonneg (x * 256 + y) (show n ≠ 0 by omega)
    have hm1 := Int.emod_lt_of_pos (x * 256 + y) (show 0 < n by omega)
    clear hC2 hK2
    go_wp2_with fail
    go_ret
    exact ⟨_, rfl, hm0, fun _ => hm1, HC2.out, HK2.out⟩
  go_enter Tryz.func97, Tryz.ntmps97
  go_wp2_with fail
  (with_reducible refine HN1.out.mono ?_)
  rintro e w1 ⟨x, rfl, hx0, hx1, hC1, hK1⟩
  have HC1 := Lib.hid (hC1.mono (K' := K + 2) (by omega))
  have HK1 := Lib.hid hK1
  have hmod : x.tmod n = x % n := Int.tmod_eq_emod_of_nonneg hx0
  have hm0 := Int.emod_nonneg x (show n ≠ 0 by omega)
  have hm1 := Int.emod_lt_of_pos x (show 0 < n by omega)
  clear hC1 hK1
  go_wp2_with fail
  go_ret
  exact ⟨_, rfl, hm0, fun _ => hm1, HC1.out, HK1.out⟩

theorem one_any (p : Nat) (A : Option Addr) (bs : List Int) (c K : Nat) (n : Int) (w : World) (h : Cur w p A bs c K) (hK : K ≤ 100000000000000) (hn : n ≤ 1000000000) :
    Calls Tryz.prog 98 #[.pointer (some ⟨p, 0, none⟩), .int .i64 n] w fun e w' => ∃ b : Bool, e = .returned (.bool b) ∧ Cur w' p A bs c (K + 2) ∧ Kept (fun q => q = p) w w' := by
  have H := Lib.hid (pick_any p A bs c K n w h hK hn)
  clear h
  go_enter Tryz.func98, Tryz.ntmps98
  go_wp2_with fail
  (with_reducible refine H.out.mono ?_)
  rintro e w1 ⟨x, rfl, hx0, hx1, hC1, hK1⟩
  have HC1 := Lib.hid hC1
  have HK1 := Lib.hid hK1
  clear hC1 hK1 hx1
  have HB := Lib.hid (show ∃ b : Bool, (x == 0) = b from ⟨_, rfl⟩)
  obtain ⟨b, hb⟩ := HB.out
  go_wp2_with fail
  refine bodyPost_ret (v := .bool b) (by simp [results, Tryz.results98, go_sem, *]) rfl ⟨b, rfl, HC1.out, HK1.out⟩

theorem among_any (p : Nat) (A : Option Addr) (bs : List Int) (c K : Nat) (B : Option Addr) (d : Nat) (xs : List Int) (w : World) (h : Cur w p A bs c K) (hK : K ≤ 100000000000000) (hx : 1 ≤ xs.length) (hx2 : xs.length ≤ 1000000000) (hB : Cells w B (ints xs)) (hBp : ∀ b o, B = some ⟨b, o, none⟩ → b ≠ p) :
    Calls Tryz.prog 88 #[.pointer (some ⟨p, 0, none⟩), .slice B xs.length d] w fun e w' => ∃ x : Int, e = .returned (.int .i64 x) ∧ x ∈ xs ∧ Cur w' p A bs c (K + 2) ∧ Kept (fun q => q = p) w w' := by
  have H := Lib.hid (pick_any p A bs c K xs.length w h hK (by omega))
  have HB := Lib.hid hB
  have HP := Lib.hid hBp
  clear h hB hBp
  go_enter Tryz.func88, Tryz.ntmps88
  go_wp2_with fail
  (with_reducible refine H.out.mono ?_)
  rintro e w1 ⟨x, rfl, hx0, hx1, hC1, hK1⟩
  obtain ⟨j, rfl⟩ := Int.eq_ofNat_of_zero_le hx0
  have hj : j < xs.length := by have := hx1 (by omega); omega
  obtain ⟨b, o, eB, hc⟩ := HB.out.int hj
  have hne := HP.out b o eB
  have hcj := (World.cell?_of_block (a := ⟨b, o + j, none⟩) (hK1.block b (lt_of_cell (hc j hj)) hne)).trans (hc j hj)
  subst eB
  have HM := Lib.hid (show xs.getD j 0 ∈ xs from by simp [List.getD, hj])
  have HC1 := Lib.hid hC1
  have HK1 := Lib.hid hK1
  have q1 : (j : Int) < (xs.length : Int) := by omega
  clear hC1 hK1 hx1 hc
  generalize xs.getD j 0 = y at *
  go_wp2_with fail
  go_ret
  exact ⟨_, rfl, HM.out, HC1.out, HK1.out⟩

end Go.Proofs.YtijkdpdmclkmlaaGreatDoor
