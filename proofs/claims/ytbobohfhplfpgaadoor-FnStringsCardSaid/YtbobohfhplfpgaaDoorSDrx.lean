/- More draws of the law of the strings: DrawParseInt; the law's own vAt. -/
import Derived.Test.YtbobohfhplfpgaaDoorSDrw
set_option linter.unusedVariables false
namespace Go.Proofs.YtbobohfhplfpgaaDoor
open Go.RowKit

def parseS : List (List UInt8) := [[], [45], [45, 48], [48, 48], [48, 49], [45, 45, 49], [49, 120], [57, 57, 57, 57, 57, 57], [49, 48, 48, 48, 48, 48, 48], [45, 57, 57, 57, 57, 57, 57], [49, 56, 52, 52, 54, 55, 52, 52, 48, 55, 51, 55, 48, 57, 53, 53, 49, 54, 49, 55]]
theorem parseS_len : ∀ x ∈ parseS, x.length ≤ 30 := by decide

set_option maxRecDepth 100000 in
set_option maxHeartbeats 4000000 in
theorem drawParseInt_any (A : Option Addr) (bs : List Int) (c : Nat) (w : World) (hA : Cells w A (u8s bs)) (hrng : ∀ x ∈ bs, 0 ≤ x ∧ x < 256) (hlen : bs.length ≤ 1000000000000) :
    Calls Tryd.prog 8 #[.slice A bs.length c] w fun e w' => ∃ l, e = .returned (.string (ba l)) ∧ l.length ≤ 30 ∧ Below w.heap.size w w' := by
  have hC := Cur.start (c := c) hA hrng hlen
  have hb0 := (Below.refl w.heap.size w).alloc (Nat.le_refl _) (.cells #[.slice A bs.length c, .int .i64 0, .int .u64 0] 35)
  have H0 := Lib.hid (one_any w.heap.size A bs c 0 2 _ hC (by omega) (by omega))
  have HB0 := Lib.hid hb0
  clear hb0 hC hA
  go_enter Tryd.func8, Tryd.ntmps8
  go_wp2_with fail
  (with_reducible refine H0.out.mono ?_)
  rintro e w2 ⟨b, rfl, hC2, hK2⟩
  have hs2 := hK2.size
  rw [World.size_alloc] at hs2
  have hb2 : Below w.heap.size w w2 := HB0.out.trans (hK2.below (fun b h => by omega) (by simp))
  cases b with
  | true =>
    have hb3 := (Below.refl w2.heap.size w2).alloc (Nat.le_refl _) (.cells (strs parseS).toArray 9)
    have h3 := of_any w.heap.size A bs c 2 w2.heap.size 11 parseS _ (hC2.below hb3) (by omega) (by decide) (by decide) (cellsH (heap_alloc_new _ _)) (by omega)
    have H3 := Lib.hid (show Calls Tryd.prog 23 #[.pointer (some ⟨w.heap.size, 0, none⟩), .slice (some ⟨w2.heap.size, 0, none⟩) 11 11] (w2.alloc (.cells #[.string ⟨#[]⟩, .string ⟨#[45]⟩, .string ⟨#[45, 48]⟩, .string ⟨#[48, 48]⟩, .string ⟨#[48, 49]⟩, .string ⟨#[45, 45, 49]⟩, .string ⟨#[49, 120]⟩, .string ⟨#[57, 57, 57, 57, 57, 57]⟩, .string ⟨#[49, 48, 48, 48, 48, 48, 48]⟩, .string ⟨#[45, 57, 57, 57, 57, 57, 57]⟩, .string ⟨#[49, 56, 52, 52, 54, 55, 52, 52, 48, 55, 51, 55, 48, 57, 53, 53, 49, 54, 49, 55]⟩] 9)) _ from h3)
    have HB3 := Lib.hid (hb2.trans (hb3.mono (show w.heap.size ≤ w2.heap.size by omega)))
    have hs3 := (World.size_alloc w2 (.cells (strs parseS).toArray 9))
    clear hb2 hb3 h3 hC2 hK2
    go_wp2_with fail
    (with_reducible refine H3.out.mono ?_)
    rintro e w4 ⟨y, rfl, hy, hC4, hK4⟩
    have HY := Lib.hid (parseS_len y hy)
    have HB4 := Lib.hid (HB3.out.trans (hK4.below (B := w.heap.size) (fun b h => by omega) (by rw [hs3]; omega)))
    clear hy hC4 hK4 hs3
    go_wp2_with fail
    go_ret
    exact ⟨_, rfl, HY.out, HB4.out⟩
  | false =>
    have H3 := Lib.hid (pick_any w.heap.size A bs c 2 2000 w2 hC2 (by omega) (by omega))
    have HB2 := Lib.hid hb2
    clear hb2 hC2 hK2
    go_wp2_with fail
    (with_reducible refine H3.out.mono ?_)
    rintro e w4 ⟨y, rfl, hy0, hy1, hC4, hK4⟩
    have hy1 : y < 2000 := hy1 (by omega)
    have HB4 := Lib.hid (HB2.out.trans (hK4.below (B := w.heap.size) (fun b h => by omega) (by omega)))
    have hs4 := HB4.out.size
    have HN := Lib.hid (l1Num_any (y - 1000) w4 (by omega) (by omega))
    have HLN := Lib.hid (Lib.itoa_length_le (y - 1000) (by omega) (by omega))
    clear hC4 hK4
    go_wp2_with fail
    (with_reducible refine HN.out.mono ?_)
    rintro e w5 ⟨rfl, hb5⟩
    have HB5 := Lib.hid (HB4.out.trans (hb5.mono hs4))
    clear hb5
    go_wp2_with fail
    go_ret
    exact ⟨_, rfl, by have := HLN.out; omega, HB5.out⟩

set_option maxHeartbeats 1000000 in
theorem vAt_any (A : Option Addr) (bs : List Int) (c : Nat) (k : Nat) (w : World) (hA : Cells w A (u8s bs)) (hrng : ∀ x ∈ bs, 0 ≤ x ∧ x < 256) (hlen : bs.length ≤ 1000000000000) (hk : k ≤ 1000) :
    Calls Tryd.prog 15 #[.slice A bs.length c, .int .i64 k] w fun e w' => ∃ x : Int, e = .returned (.int .i64 x) ∧ 0 ≤ x ∧ x < 256 ∧ w = w' := by
  by_cases h : k < bs.length
  · obtain ⟨b, o, rfl, hc⟩ := hA k (.int .u8 (bs.getD k 0)) (by simp [h, List.getD])
    obtain ⟨h0, h1⟩ := hrng (bs.getD k 0) (by simp [List.getD, h])
    generalize bs.getD k 0 = x at *
    clear hA hrng
    go_enter Tryd.func15, Tryd.ntmps15
    go_wp2_with fail
    go_ret
    exact ⟨_, rfl, h0, h1, rfl⟩
  · have hm : ((k : Int) * 7 + (bs.length : Int)).tmod 256 = ((k : Int) * 7 + (bs.length : Int)) % 256 := Int.tmod_eq_emod_of_nonneg (by omega)
    have h0 : 0 ≤ ((k : Int) * 7 + (bs.length : Int)) % 256 := by omega
    have h1 : ((k : Int) * 7 + (bs.length : Int)) % 256 < 256 := by omega
    clear hA hrng
    go_enter Tryd.func15, Tryd.ntmps15
    go_wp2_with fail
    go_ret
    exact ⟨_, rfl, h0, h1, rfl⟩

end Go.Proofs.YtbobohfhplfpgaaDoor
