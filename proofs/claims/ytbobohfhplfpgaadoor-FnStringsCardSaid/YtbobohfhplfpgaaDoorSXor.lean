/- A byte xored with a number from 1 to 255 is another byte; a row of bytes with one of them stored. -/
import Derived.Test.YtbobohfhplfpgaaDoorSDry
import Derived.Laws.BitsAllLaws
set_option linter.unusedVariables false
namespace Go.Proofs.YtbobohfhplfpgaaDoor
open Go.RowKit

theorem xor_other {a : UInt8} {d : Int} (h0 : 1 ≤ d) (h1 : d ≤ 255) : ∃ c : UInt8, bits .xor .u8 (a.toNat : Int) d = (c.toNat : Int) ∧ c ≠ a := by
  obtain ⟨k, rfl⟩ := Int.eq_ofNat_of_zero_le (show 0 ≤ d by omega)
  have hk : k < 256 := by omega
  refine ⟨a ^^^ UInt8.ofNat k, ?_, ?_⟩
  · rw [u8_xor_nat a.toNat k a.toNat_lt hk, UInt8.toNat_xor, UInt8.toNat_ofNat', Nat.mod_eq_of_lt (by omega)]
  · intro e
    have h : (UInt8.ofNat k) = 0 := by
      have := congrArg (fun z => a ^^^ z) e
      simpa [← UInt8.xor_assoc] using this
    have := congrArg UInt8.toNat h
    rw [UInt8.toNat_ofNat', Nat.mod_eq_of_lt (by omega)] at this
    simp at this
    omega
theorem set_getD {l : List UInt8} {k j : Nat} (c : UInt8) (hk : k < l.length) : (l.set k c).getD j 0 = if j = k then c else l.getD j 0 := by
  by_cases h : j = k
  · subst h
    simp [List.getD, hk]
  · rw [if_neg h]
    simp [List.getD, List.getElem?_set_ne (Ne.symm h)]

theorem u8_in {z : Int} (h0 : 0 ≤ z) (h1 : z < 256) : IntKind.u8.wrap z = z := by
  have : IntKind.u8.wrap z = z % 256 := rfl
  rw [this]
  omega

/-- The byte that the law stores. -/
def cx (a : UInt8) (x : Int) : UInt8 := a ^^^ UInt8.ofNat (1 + x % 255).toNat
theorem cx_bits (a : UInt8) {x : Int} (h0 : 0 ≤ x) : bits .xor .u8 (a.toNat : Int) (1 + x % 255) = ((cx a x).toNat : Int) ∧ cx a x ≠ a := by
  obtain ⟨k, hk⟩ := Int.eq_ofNat_of_zero_le (show 0 ≤ 1 + x % 255 by omega)
  have hk1 : 1 ≤ k ∧ k < 256 := by omega
  unfold cx
  rw [hk, Int.toNat_natCast]
  refine ⟨?_, ?_⟩
  · rw [u8_xor_nat a.toNat k a.toNat_lt (by omega), UInt8.toNat_xor, UInt8.toNat_ofNat', Nat.mod_eq_of_lt (by omega)]
  · intro e
    have h : (UInt8.ofNat k) = 0 := by
      have := congrArg (fun z => a ^^^ z) e
      simpa [← UInt8.xor_assoc] using this
    have := congrArg UInt8.toNat h
    rw [UInt8.toNat_ofNat', Nat.mod_eq_of_lt (by omega)] at this
    simp at this
    omega

/-- The facts of region 22: before and behind the store. -/
structure YF (w0 : World) (g k : Nat) (a : UInt8) (x : Int) (b7 b13 : Bool) (W : World) : Prop where
  lo : b13 = false → ∃ n, W = w0.drewN n
  hi : b13 = true → ∃ n, W = (w0.setCell ⟨g, k, none⟩ (.int .u8 (cx a x).toNat)).drewN n
  rng : b7 = true → 0 ≤ x ∧ x < 256
  o : b13 = true → b7 = true
theorem YF.start {w0 : World} {g k : Nat} {a : UInt8} {x : Int} : YF w0 g k a x false false w0.drew :=
  { lo := fun _ => ⟨1, rfl⟩, hi := fun h => (nomatch h), rng := fun h => (nomatch h), o := fun h => (nomatch h) }
theorem YF.draw {w0 W : World} {g k : Nat} {a : UInt8} {x y : Int} (h : YF w0 g k a x false false W) (h0 : 0 ≤ y) (h1 : y < 256) : YF w0 g k a y true false W :=
  { lo := h.lo, hi := fun h => (nomatch h), rng := fun _ => ⟨h0, h1⟩, o := fun h => (nomatch h) }
theorem YF.store {w0 W : World} {g k : Nat} {a : UInt8} {x : Int} (h : YF w0 g k a x true false W) : YF w0 g k a x true true (W.setCell ⟨g, k, none⟩ (.int .u8 (cx a x).toNat)) :=
  { lo := fun h => (nomatch h), hi := fun _ => by
      obtain ⟨n, hn⟩ := h.lo rfl
      exact ⟨n, by rw [hn]; rfl⟩, rng := h.rng, o := fun _ => rfl }

end Go.Proofs.YtbobohfhplfpgaaDoor
