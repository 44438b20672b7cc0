/- A table the other way round: the reference walked. -/
import Derived.Test.YtojdobpmknadhaaProg
import Derived.Test.YtojdobpmknadhaaSimS
import Derived.Deep.RegionHeld3
set_option linter.unusedVariables false
namespace Go.Proofs.Ytojdobpmknadhaa
open Go.RowKit

def flipF (f : Nat → Nat → Bool) : Nat → Nat → Bool := fun k i => f i k
/-- What is turned after i rows and k more. -/
def turnF (f : Nat → Nat → Bool) (i k : Nat) : Nat → Nat → Bool := fun a b => if b < i ∨ (b = i ∧ a < k) then f b a else false
theorem turnF_set (f : Nat → Nat → Bool) (i k : Nat) : setN (turnF f i k) k i (f i k) = turnF f i (k + 1) := by
  funext a b
  unfold setN turnF
  by_cases h : a = k ∧ b = i
  · obtain ⟨rfl, rfl⟩ := h
    rw [if_pos ⟨rfl, rfl⟩, if_pos (.inr ⟨rfl, by omega⟩)]
  · rw [if_neg h]
    by_cases h2 : b < i ∨ (b = i ∧ a < k)
    · rw [if_pos h2, if_pos (by omega)]
    · rw [if_neg h2, if_neg (by omega)]
theorem turnF_row {f : Nat → Nat → Bool} {n : Nat} (i : Nat) : ∀ a b, a < n → b < n → turnF f i n a b = turnF f (i + 1) 0 a b := by
  intro a b ha hb
  unfold turnF
  by_cases h2 : b < i ∨ (b = i ∧ a < n)
  · rw [if_pos h2, if_pos (by omega)]
  · rw [if_neg h2, if_neg (by omega)]
theorem turnF_all {f : Nat → Nat → Bool} {n : Nat} : ∀ a b, a < n → b < n → turnF f n 0 a b = flipF f a b := by
  intro a b ha hb
  unfold turnF flipF
  rw [if_pos (.inl hb)]

set_option maxRecDepth 100000 in
set_option maxHeartbeats 8000000 in
theorem l11Flip_any (B g c n : Nat) (R C : Nat → Nat) (f : Nat → Nat → Bool) (w : World) (h0 : 1 ≤ n) (h1 : n ≤ 40) (hT : TabB w B g R C n f) :
    Calls Try.prog 47 #[.slice (some ⟨g, 0, none⟩) n c] w fun e w' => ∃ g c R C, e = .returned (.slice (some ⟨g, 0, none⟩) n c) ∧ TabB w' w.heap.size g R C n (flipF f) ∧ Below w.heap.size w w' := by
  have H := Lib.hid (l11Table_any n w h0 h1)
  have HT := Lib.hid (show ∀ W, Below w.heap.size w W → TabB W B g R C n f from fun W hb => hT.below hb (Nat.le_refl _))
  have HTW := Lib.hid hT
  clear hT
  go_enter Try.func47, Try.ntmps47
  go_wp2_with fail
  refine H.out.mono ?_
  rintro e w1 ⟨g2, c2, R2, C2, rfl, ht, hb1⟩
  have HT2 := Lib.hid (ht.congr (f' := turnF f 0 0) (fun a b _ _ => by simp [turnF]))
  have HB := Lib.hid hb1
  clear ht hb1
  go_wp2_with fail
  go_loopw [4] (fun q wr => ∃ i : Nat, i ≤ n ∧ q = .int .i64 i ∧ TabB wr w.heap.size g2 R2 C2 n (turnF f i 0) ∧ Below w.heap.size w wr)
    (fun q _ => n - (intOf q).toNat)
  case atStart => exact ⟨0, Nat.zero_le _, rfl, HT2.out, HB.out⟩
  case round =>
    clear HT2 HB
    obtain ⟨i, hi, rfl, ht, hbel⟩ := hrel
    have HT2 := Lib.hid ht
    have HZ := Lib.hid hbel
    clear ht hbel
    by_cases hlt : i < n
    · go_wp2_with fail
      go_loopw [5] (fun q wr => ∃ k : Nat, k ≤ n ∧ q = .int .i64 k ∧ TabB wr w.heap.size g2 R2 C2 n (turnF f i k) ∧ Below w.heap.size w wr)
        (fun q _ => n - (intOf q).toNat)
      case atStart => exact ⟨0, Nat.zero_le _, rfl, HT2.out, HZ.out⟩
      case round =>
        clear HT2 HZ
        obtain ⟨k, hk, rfl, ht, hbel⟩ := hrel
        have HT2 := Lib.hid ht
        have HZ := Lib.hid hbel
        by_cases hkt : k < n
        · have h1t := HT.out wr hbel
          have o1 := h1t.outer i hlt
          obtain ⟨n1, _⟩ := h1t.inner i k hlt hkt
          have o2 := ht.outer k hkt
          obtain ⟨m1, m2⟩ := ht.inner k i hkt hlt
          have hTS := ht.set hkt hlt (f i k)
          rw [turnF_set] at hTS
          have HTS := Lib.hid hTS
          have b0 : (0 : Int) ≤ (i : Int) := by omega
          have b1 : (i : Int) < (n : Int) := by omega
          have b2 : (0 : Int) ≤ (k : Int) := by omega
          have b3 : (k : Int) < (n : Int) := by omega
          have hr2 := (ht.low k hkt).1
          have hr2g := (ht.low k hkt).2
          have hgw := lt_of_cell (HTW.out.outer i hlt)
          have hrw := lt_of_cell (HTW.out.inner i k hlt hkt).1
          have hS : ∀ b, (wr.setCell ⟨R2 k, i, none⟩ (.bool b)).drew.cell? ⟨g, i, none⟩ = some (.slice (some ⟨R i, 0, none⟩) n (C i)) ∧ (wr.setCell ⟨R2 k, i, none⟩ (.bool b)).drew.cell? ⟨R i, k, none⟩ = some (.bool (f i k)) ∧ (wr.setCell ⟨R2 k, i, none⟩ (.bool b)).drew.cell? ⟨g2, k, none⟩ = some (.slice (some ⟨R2 k, 0, none⟩) n (C2 k)) := fun b => by
            dsimp only at hgw hrw
            refine ⟨?_, ?_, ?_⟩
            · exact (World.cell?_setCell_other wr _ _ _ (by intro e; simp only [Addr.mk.injEq, and_true] at e; omega)).trans o1
            · exact (World.cell?_setCell_other wr _ _ _ (by intro e; simp only [Addr.mk.injEq, and_true] at e; omega)).trans n1
            · exact (World.cell?_setCell_other wr _ _ _ (by intro e; simp only [Addr.mk.injEq, and_true] at e; omega)).trans o2
          have HS := Lib.hid hS
          have HTD := Lib.hid (show TabB (wr.setCell ⟨R2 k, i, none⟩ (.bool (f i k))).drew w.heap.size g2 R2 C2 n (turnF f i (k + 1)) from HTS.out.below (Below.refl _ _).drew (Nat.le_refl _))
          have HZD := Lib.hid (hbel.setCell (p := ⟨R2 k, i, none⟩) hr2 (.bool (f i k))).drew
          clear hS hTS h1t ht hbel hgw hrw
          generalize f i k = fv at *
          go_wp2_with fail
          go_region_held3 (fun w' => w'.cell? ⟨g, i, none⟩ = some (.slice (some ⟨R i, 0, none⟩) n (C i)) ∧ w'.cell? ⟨R i, k, none⟩ = some (.bool fv) ∧ w'.cell? ⟨g2, k, none⟩ = some (.slice (some ⟨R2 k, 0, none⟩) n (C2 k)))
            (first | exact HS.out _ | go_keep)
            (first | fail)
          go_wp2_with fail
          go_roundw
          case rel => exact ⟨k + 1, by omega, by go_num, HTD.out, HZD.out⟩
          case measure => simp [intOf]; omega
        · obtain rfl : k = n := by omega
          have HT3 := Lib.hid (ht.congr (turnF_row i))
          clear ht hbel
          go_wp2_with fail
          go_roundw
          case rel => exact ⟨i + 1, by omega, by go_num, HT3.out, HZ.out⟩
          case measure => simp [intOf]; omega
    · obtain rfl : i = n := by omega
      have HT3 := Lib.hid (HT2.out.congr turnF_all)
      go_wp2_with fail
      go_ret
      exact ⟨g2, c2, R2, C2, rfl, HT3.out, HZ.out⟩

end Go.Proofs.Ytojdobpmknadhaa
