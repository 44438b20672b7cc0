/- Numbers written behind a word: the program walked. -/
import Derived.Test.YtojdobpmknadhaaDoorProg
import Derived.Test.YtojdobpmknadhaaDoorBase
import Derived.Test.YtojdobpmknadhaaDoorRndL
import Derived.Test.YtojdobpmknadhaaDoorShelfI
set_option linter.unusedVariables false
namespace Go.Proofs.YtojdobpmknadhaaDoor
open Go.RowKit

theorem dec_digits {m : Nat} (h : m < 100) : Lib.decDigits m = dec2 m := by
  unfold dec2
  split
  · rw [Lib.decDigits, dif_pos (by omega)]
  · rw [Lib.decDigits, dif_neg (by omega), Lib.decDigits, dif_pos (by omega)]
    simp

theorem bytes_app (a b : List UInt8) : bytesOf a ++ bytesOf b = bytesOf (a ++ b) := by
  apply ByteArray.ext
  simp [bytesOf]
theorem bytes_size (a : List UInt8) : (bytesOf a).size = a.length := by simp [bytesOf, ByteArray.size]

set_option maxHeartbeats 400000 in
theorem decS_any (x : Int) (w : World) (h0 : 0 ≤ x) (h1 : x < 100) :
    Calls Tryd.prog 51 #[.int .i64 x] w fun e w' => e = .returned (.string (bytesOf (decT x))) ∧ w = w' := by
  obtain ⟨m, rfl⟩ := Int.eq_ofNat_of_zero_le h0
  have H := Any.strconv_Itoa_small Tryd.lays171 m (by omega) w
  have e : decT (m : Int) = Lib.decDigits m := by
    rw [dec_digits (by omega)]
    unfold decT
    rw [if_pos h0, if_pos h1]
    rfl
  rw [← e] at H
  have H := Lib.hid H
  clear e
  generalize decT (m : Int) = d at *
  go_enter Tryd.func51, Tryd.ntmps51
  go_wp2_with fail
  refine H.out.mono ?_
  rintro e w1 ⟨rfl, rfl⟩
  go_wp2_with fail
  go_ret
  exact ⟨rfl, rfl⟩

set_option maxRecDepth 100000 in
set_option maxHeartbeats 2000000 in
theorem numbered_any (pre : List UInt8) (A : Option Addr) (c : Nat) (xs : List Int) (w : World) (hp : pre.length ≤ 1000000) (hn : xs.length ≤ 1000000) (hx : ∀ x ∈ xs, 0 ≤ x ∧ x < 100) (hA : Cells w A (ints xs)) :
    Calls Tryd.prog 44 #[.string (bytesOf pre), .slice A xs.length c] w fun e w' => e = .returned (.string (bytesOf (pre ++ numsT decT xs))) ∧ w = w' := by
  have HALL := Lib.hid (show pre ++ numsT decT (xs.take xs.length) = pre ++ numsT decT xs from by rw [List.take_length])
  have HT := Lib.hid (fun k (h : k < xs.length) => nums_take h)
  have HL := Lib.hid (fun k => nums_len (l := xs.take k) fun x h => hx x (List.mem_of_mem_take h))
  have HX := Lib.hid hx
  clear hx
  go_enter Tryd.func44, Tryd.ntmps44
  go_wp2_with fail
  go_loop [0, 9] (fun s i => ∃ k : Nat, k ≤ xs.length ∧ i = .int .i64 k ∧ s = .string (bytesOf (pre ++ numsT decT (xs.take k)))) (fun _ i => xs.length - (intOf i).toNat)
  case atStart => exact ⟨0, Nat.zero_le _, rfl, by simp [numsT]⟩
  case round =>
    obtain ⟨k, hk, rfl, rfl⟩ := hrel
    by_cases hlt : k < xs.length
    · obtain ⟨b, o, rfl, hc⟩ := hA.int hlt
      have c0 := hc k hlt
      have hm : xs.getD k 0 ∈ xs := by
        have e : xs.getD k 0 = xs[k] := by simp [List.getD, hlt]
        rw [e]; exact List.getElem_mem _
      obtain ⟨x0, x1⟩ := HX.out _ hm
      have hd := dec_len x0 x1
      have HN := Lib.hid (HT.out k hlt)
      have hl := HL.out k
      have hs1 : (bytesOf (pre ++ numsT decT (xs.take k))).size ≤ 8000000 := by
        rw [bytes_size, List.length_append]
        rw [List.length_take] at hl
        omega
      have hs2 : (bytesOf (decT (xs.getD k 0))).size ≤ 2 := by rw [bytes_size]; exact hd
      clear hc hA hm hl hd
      generalize hy : xs.getD k 0 = y at *
      have HY := Lib.hid hy
      clear hy
      have HAPP := Lib.hid (show bytesOf (pre ++ numsT decT (xs.take k)) ++ ((⟨#[32]⟩ : ByteArray) ++ bytesOf (decT y)) = bytesOf (pre ++ numsT decT (xs.take (k + 1))) from by
        rw [HN.out, show (⟨#[32]⟩ : ByteArray) = bytesOf [32] from rfl, bytes_app, bytes_app, List.append_assoc]; rfl)
      go_wp2_with ((with_reducible refine (decS_any y _ x0 x1).mono ?_); rintro e w' ⟨rfl, rfl⟩)
      go_round
      case rel => exact ⟨k + 1, by omega, by go_num, by rw [HAPP.out]⟩
      case measure => simp [intOf]; omega
    · obtain rfl : k = xs.length := by omega
      go_wp2_with fail
      go_ret
      exact ⟨rfl, rfl⟩

end Go.Proofs.YtojdobpmknadhaaDoor
