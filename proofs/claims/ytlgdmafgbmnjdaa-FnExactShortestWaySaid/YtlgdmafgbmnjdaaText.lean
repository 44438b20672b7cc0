/- The walk of markText: a number's text. -/
import Derived.Test.YtlgdmafgbmnjdaaProg
import Derived.Test.YtlgdmafgbmnjdaaIntS
set_option linter.unusedVariables false
namespace Go.Proofs.Ytlgdmafgbmnjdaa
open Go.RowKit

def mDig : Nat → Int → ByteArray → ByteArray
  | 0, _, out => out
  | f + 1, k, out => if k ≤ 0 then out else mDig f (k / 10) (strOfNums [48 + k % 10] ++ out)

theorem mDig_zero (f : Nat) (k : Int) (out : ByteArray) (h : k ≤ 0) : mDig f k out = out := by
  cases f with
  | zero => rfl
  | succ f => rw [mDig, if_pos h]

def mText (k : Int) : ByteArray := (⟨#[109]⟩ : ByteArray) ++ mDig 64 k ⟨#[]⟩

set_option maxHeartbeats 1000000 in
theorem markText_any (k : Int) (w : World) (h0 : 0 < k) (h1 : k ≤ 1099511627776) :
    Calls Try.prog 97 #[.int .i64 k] w fun e w' => e = .returned (.string (mText k)) ∧ Below w.heap.size w w' := by
  go_enter Try.func97, Try.ntmps97
  go_wp2_with fail
  go_loopw [0, 3] (fun kk o wr => ∃ (q : Int) (s : ByteArray) (f : Nat), kk = .int .i64 q ∧ o = .string s ∧ 0 ≤ q ∧ q ≤ 1099511627776 ∧ q < 10 ^ f ∧ mDig 64 k ⟨#[]⟩ = mDig f q s ∧ s.size + f = 64 ∧ Below w.heap.size w wr)
    (fun kk _ _ => (intOf kk).toNat)
  case atStart => exact ⟨k, _, 64, rfl, rfl, by omega, by omega, by omega, rfl, rfl, Below.refl _ _⟩
  case round =>
    obtain ⟨q, s, f, rfl, rfl, hq0, hq1, hqf, hE, hsz, hbel⟩ := hrel
    have HQF := Lib.hid hqf
    have HE := Lib.hid hE
    have HSZ := Lib.hid hsz
    have hs64 : s.size ≤ 64 := by omega
    clear hqf hE hsz
    by_cases hq : 0 < q
    · have hconv := run_convert_bytes_arg (P := Try.prog) (wr.alloc (Obj.cells #[Value.int IntKind.u8 (48 + q % 10)] 5)) 132 5 Try.underlying132 Try.underlying5 wr.heap.size 0 1 1 [48 + q % 10] rfl
        (fun i hi => by
          have : i = 0 := by omega
          subst this
          simp) 9 Try.underlying9
      have hss : (strOfNums [48 + q % 10]).size + s.size ≤ 1000 := by rw [strOfNums_size]; simp; omega
      obtain ⟨f', rfl⟩ : ∃ f', f = f' + 1 := by
        cases f with
        | zero => have := HQF.out; simp at this; omega
        | succ f' => exact ⟨f', rfl⟩
      have HE2 : Hid (mDig 64 k ⟨#[]⟩ = mDig f' (q / 10) (strOfNums [48 + q % 10] ++ s)) := by
        have e : mDig (f' + 1) q s = mDig f' (q / 10) (strOfNums [48 + q % 10] ++ s) := by rw [mDig, if_neg (by omega)]
        rw [← e]
        exact HE.out
      have HQ2 : Hid (q / 10 < 10 ^ f') := by
        have := HQF.out
        rw [Int.pow_succ] at this
        show q / 10 < 10 ^ f'
        omega
      have HB2 := Lib.hid (hbel.alloc hbel.size (Obj.cells #[Value.int IntKind.u8 (48 + q % 10)] 5))
      have HS2 : Hid ((strOfNums [48 + q % 10] ++ s).size + f' = 64) := by
        show _ = 64
        rw [ByteArray.size_append, strOfNums_size]
        have := HSZ.out
        simp
        omega
      clear hbel
      go_wp2_with fail
      go_roundw
      case rel => exact ⟨q / 10, _, f', rfl, rfl, by omega, by omega, HQ2.out, HE2.out, HS2.out, HB2.out⟩
      case measure => simp [intOf]; omega
    · have HE2 := Lib.hid (show mDig 64 k ⟨#[]⟩ = s by rw [HE.out]; exact mDig_zero f q s (by omega))
      go_wp2_with fail
      go_ret
      exact ⟨by unfold mText; rw [HE2.out]; rfl, hbel⟩

end Go.Proofs.Ytlgdmafgbmnjdaa
