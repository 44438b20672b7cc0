/- The draws of the law of the strings: of, any1, DrawFormatInt, walked. -/
import Derived.Test.YtbobohfhplfpgaaDoorSFmt
import Derived.Test.YtbobohfhplfpgaaDoorCur
set_option linter.unusedVariables false
namespace Go.Proofs.YtbobohfhplfpgaaDoor
open Go.RowKit

abbrev strs (xs : List (List UInt8)) : List Value := xs.map fun l => Value.string (ba l)

theorem cellsH {w : World} {g : Nat} {cs : List Value} {t : TypeId} {fr : Nat × Nat} (h : w.heap[g]? = some (.cells cs.toArray t fr)) : Cells w (some ⟨g, 0, none⟩) cs := fun j u hj => by
  refine ⟨g, 0, rfl, ?_⟩
  rw [Nat.zero_add, cell_of_row _ _ _ _ _ _ h]
  simpa using hj

set_option maxHeartbeats 1000000 in
theorem of_any (p : Nat) (A : Option Addr) (bs : List Int) (c K : Nat) (b0 : Nat) (d : Nat) (xs : List (List UInt8)) (w : World) (h : Cur w p A bs c K) (hK : K ≤ 100000000000000) (hx : 1 ≤ xs.length) (hx2 : xs.length ≤ 1000000000) (hB : Cells w (some ⟨b0, 0, none⟩) (strs xs)) (hBp : b0 ≠ p) :
    Calls Tryd.prog 23 #[.pointer (some ⟨p, 0, none⟩), .slice (some ⟨b0, 0, none⟩) xs.length d] w fun e w' => ∃ x, e = .returned (.string (ba x)) ∧ x ∈ xs ∧ Cur w' p A bs c (K + 2) ∧ Kept (fun q => q = p) w w' := by
  have H := Lib.hid (pick_any p A bs c K xs.length w h hK (by omega))
  have HB := Lib.hid hB
  clear h hB
  go_enter Tryd.func23, Tryd.ntmps23
  go_wp2_with fail
  (with_reducible refine H.out.mono ?_)
  rintro e w1 ⟨x, rfl, hx0, hx1, hC1, hK1⟩
  obtain ⟨j, rfl⟩ := Int.eq_ofNat_of_zero_le hx0
  have hj : j < xs.length := by have := hx1 (by omega); omega
  obtain ⟨b, o, eB, hc⟩ := HB.out j (.string (ba (xs.getD j []))) (by simp [hj, List.getD])
  cases eB
  have hcj := (World.cell?_of_block (a := ⟨b0, 0 + j, none⟩) (hK1.block b0 (lt_of_cell hc) hBp)).trans hc
  have HM := Lib.hid (show xs.getD j [] ∈ xs from by simp [List.getD, hj])
  have HC1 := Lib.hid hC1
  have HK1 := Lib.hid hK1
  have q1 : (j : Int) < (xs.length : Int) := by omega
  rw [Nat.zero_add] at hcj
  clear hC1 hK1 hx1 hc
  generalize xs.getD j [] = y at *
  go_wp2_with fail
  go_ret
  exact ⟨_, rfl, HM.out, HC1.out, HK1.out⟩

def anyS : List (List UInt8) := [[], [97], [97, 44, 98], [115, 111, 109, 101, 32, 119, 111, 114, 100, 115], [120, 35, 121], [45, 49, 50], [0, 255], [44, 44], [48]]
theorem anyS_len : ∀ x ∈ anyS, x.length ≤ 20 := by decide

set_option maxRecDepth 100000 in
set_option maxHeartbeats 2000000 in
theorem any1_any (p : Nat) (A : Option Addr) (bs : List Int) (c K : Nat) (w : World) (hC : Cur w p A bs c K) (hK : K ≤ 1000000000000) :
    Calls Tryd.prog 26 #[.pointer (some ⟨p, 0, none⟩)] w fun e w' => ∃ x, e = .returned (.string (ba x)) ∧ x.length ≤ 20 ∧ Cur w' p A bs c (K + 2) ∧ Kept (fun q => q = p) w w' := by
  have hpw := hC.lt
  have hb1 := (Below.refl w.heap.size w).alloc (Nat.le_refl _) (.cells (strs anyS).toArray 9)
  have h1 := of_any p A bs c K w.heap.size 9 anyS _ (hC.below hb1) (by omega) (by decide) (by decide) (cellsH (heap_alloc_new _ _)) (by omega)
  have H1 := Lib.hid (show Calls Tryd.prog 23 #[.pointer (some ⟨p, 0, none⟩), .slice (some ⟨w.heap.size, 0, none⟩) 9 9] (w.alloc (.cells #[.string ⟨#[]⟩, .string ⟨#[97]⟩, .string ⟨#[97, 44, 98]⟩, .string ⟨#[115, 111, 109, 101, 32, 119, 111, 114, 100, 115]⟩, .string ⟨#[120, 35, 121]⟩, .string ⟨#[45, 49, 50]⟩, .string ⟨#[0, 255]⟩, .string ⟨#[44, 44]⟩, .string ⟨#[48]⟩] 9)) _ from h1)
  have HB1 := Lib.hid (show Below w.heap.size w (w.alloc (.cells #[.string ⟨#[]⟩, .string ⟨#[97]⟩, .string ⟨#[97, 44, 98]⟩, .string ⟨#[115, 111, 109, 101, 32, 119, 111, 114, 100, 115]⟩, .string ⟨#[120, 35, 121]⟩, .string ⟨#[45, 49, 50]⟩, .string ⟨#[0, 255]⟩, .string ⟨#[44, 44]⟩, .string ⟨#[48]⟩] 9)) from hb1)
  clear h1 hb1 hC
  go_enter Tryd.func26, Tryd.ntmps26
  go_wp2_with fail
  (with_reducible refine H1.out.mono ?_)
  rintro e w2 ⟨x, rfl, hx, hC2, hK2⟩
  have HL := Lib.hid (anyS_len x hx)
  have HC2 := Lib.hid hC2
  have HK2 := Lib.hid ((Kept.of_below HB1.out _).trans hK2)
  clear hC2 hK2 hx
  go_wp2_with fail
  go_ret
  exact ⟨_, rfl, HL.out, HC2.out, HK2.out⟩

abbrev numsF (n : Int) : List Int := [0, 1, -1, 10, 999999, -999999, 1000000, -1000000, n]
theorem numsF_le {n x : Int} (hn : -1000000 ≤ n ∧ n ≤ 1000000) (h : x ∈ numsF n) : -1000000 ≤ x ∧ x ≤ 1000000 := by
  simp only [numsF, List.mem_cons, List.not_mem_nil, or_false] at h
  rcases h with rfl | rfl | rfl | rfl | rfl | rfl | rfl | rfl | rfl <;> omega

set_option maxRecDepth 100000 in
set_option maxHeartbeats 2000000 in
theorem drawFormatInt_any (A : Option Addr) (bs : List Int) (c : Nat) (w : World) (hA : Cells w A (u8s bs)) (hrng : ∀ x ∈ bs, 0 ≤ x ∧ x < 256) (hlen : bs.length ≤ 1000000000000) :
    Calls Tryd.prog 5 #[.slice A bs.length c] w fun e w' => ∃ x : Int, e = .returned (.int .i64 x) ∧ -1000000 ≤ x ∧ x ≤ 1000000 ∧ Below w.heap.size w w' := by
  have hC := Cur.start (c := c) hA hrng hlen
  have hb0 := (Below.refl w.heap.size w).alloc (Nat.le_refl _) (.cells #[.slice A bs.length c, .int .i64 0, .int .u64 0] 35)
  have H0 := Lib.hid (pick_any w.heap.size A bs c 0 1000 _ hC (by omega) (by omega))
  have HB0 := Lib.hid hb0
  clear hb0 hC hA
  go_enter Tryd.func5, Tryd.ntmps5
  go_wp2_with fail
  (with_reducible refine H0.out.mono ?_)
  rintro e w2 ⟨x, rfl, hx0, hx1, hC2, hK2⟩
  have hx1 : x < 1000 := hx1 (by omega)
  have hs2 := hK2.size
  rw [World.size_alloc] at hs2
  have hb2 : Below w.heap.size w w2 := HB0.out.trans (hK2.below (fun b h => by omega) (by simp))
  have hb3 := (Below.refl w2.heap.size w2).alloc (Nat.le_refl _) (.cells (ints (numsF (x - 500))).toArray 3)
  have h3 := among_any w.heap.size A bs c 2 (some ⟨w2.heap.size, 0, none⟩) 9 (numsF (x - 500)) _ (hC2.below hb3) (by omega) (by simp) (by simp) (cellsH (heap_alloc_new _ _)) (fun b' o' e => by cases e; omega)
  have H3 := Lib.hid (show Calls Tryd.prog 16 #[.pointer (some ⟨w.heap.size, 0, none⟩), .slice (some ⟨w2.heap.size, 0, none⟩) 9 9] (w2.alloc (.cells #[.int .i64 0, .int .i64 1, .int .i64 (-1), .int .i64 10, .int .i64 999999, .int .i64 (-999999), .int .i64 1000000, .int .i64 (-1000000), .int .i64 (x - 500)] 3)) _ from h3)
  have HB3 := Lib.hid (show Below w.heap.size w (w2.alloc (.cells #[.int .i64 0, .int .i64 1, .int .i64 (-1), .int .i64 10, .int .i64 999999, .int .i64 (-999999), .int .i64 1000000, .int .i64 (-1000000), .int .i64 (x - 500)] 3)) from hb2.trans (hb3.mono (by omega)))
  have hq : ∀ q : Nat, q = w.heap.size → w.heap.size ≤ q := fun q h => by omega
  clear hb2 hb3 h3 hC2 hK2
  go_wp2_with fail
  (with_reducible refine H3.out.mono ?_)
  rintro e w4 ⟨y, rfl, hy, hC4, hK4⟩
  have HY := Lib.hid (numsF_le (by omega) hy)
  have HB4 := Lib.hid (HB3.out.trans (hK4.below (B := w.heap.size) (fun b h => by omega) (by simp; omega)))
  clear hy hC4 hK4
  go_wp2_with fail
  go_ret
  exact ⟨_, rfl, HY.out.1, HY.out.2, HB4.out⟩

end Go.Proofs.YtbobohfhplfpgaaDoor
