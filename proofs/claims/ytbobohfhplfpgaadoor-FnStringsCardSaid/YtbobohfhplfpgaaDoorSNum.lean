/- The reference's decimal numbers: spec.l1Num, walked. -/
import Derived.Test.YtbobohfhplfpgaaDoorProg
import Derived.Lib.ItoaNum
import Derived.Lib.ItoaLen
import Derived.Lib.Hide
import Derived.Test.YtbobohfhplfpgaaDoorIntS
import Derived.IntWalk
import Derived.Laws.Strings
import Derived.BigQuiet
import Derived.WalkKit
set_option linter.unusedVariables false
namespace Go.Proofs.YtbobohfhplfpgaaDoor
open Go.RowKit

def ba (l : List UInt8) : ByteArray := ⟨l.toArray⟩
theorem ba_list (l : List UInt8) : (ba l).data.toList = l := by simp [ba]
theorem digit_at : ∀ i : Fin 10, (⟨#[48, 49, 50, 51, 52, 53, 54, 55, 56, 57]⟩ : ByteArray).extract i.val (i.val + 1) = ba [UInt8.ofNat (48 + i.val)] := by decide +kernel
theorem digits_size {n : Nat} (h : n < 18446744073709551616) : (ba (Lib.decDigits n)).size ≤ 20 := by
  have := Lib.nDigits_le20 n h
  rw [← Lib.decDigits_length] at this
  simpa [ba, ByteArray.size] using this
theorem ba_app (a b : List UInt8) : ba a ++ ba b = ba (a ++ b) := by
  apply ByteArray.ext
  simp [ba]

set_option maxRecDepth 100000 in
set_option maxHeartbeats 4000000 in
theorem l1Num_q (n : Nat) : ∀ (w : World), n ≤ 100000000 →
    Calls Tryd.prog 21 #[.int .i64 n] w fun e w' => e = .returned (.string (ba (Lib.decDigits n))) ∧ ∃ m, w' = w.drewN m := by
  induction n using Nat.strongRecOn with
  | ind n ih =>
  intro w hn
  have h0 : ¬ (n : Int) < 0 := by omega
  by_cases h10 : n < 10
  · have h1 : (n : Int) < 10 := by omega
    have hd := digit_at ⟨n, h10⟩
    dsimp only at hd
    have HD := Lib.hid hd
    have HDD := Lib.hid (Lib.decDigits_one h10)
    clear ih hd
    go_enter Tryd.func21, Tryd.ntmps21
    go_wp2_with fail
    go_ret
    refine ⟨?_, 0, rfl⟩
    rw [HDD.out, ← HD.out]
    rfl
  · have h1 : ¬ (n : Int) < 10 := by omega
    have hdd : Lib.decDigits n = Lib.decDigits (n / 10) ++ [UInt8.ofNat (48 + n % 10)] := by rw [Lib.decDigits, dif_neg h10]
    have hd := digit_at ⟨n % 10, by omega⟩
    dsimp only at hd
    have HQ := Lib.hid (show ∀ j, Calls Tryd.prog 21 #[.int .i64 ((n : Int) / 10)] (w.drewN j) fun e w' => e = .returned (.string (ba (Lib.decDigits (n / 10)))) ∧ ∃ m, w' = w.drewN m from fun j => by
      rw [show (n : Int) / 10 = ((n / 10 : Nat) : Int) by omega]
      exact (ih (n / 10) (by omega) (w.drewN j) (by omega)).mono fun e w' ⟨h, m, hm⟩ => ⟨h, j + m, by rw [hm, World.drewN_drewN]⟩)
    have HD := Lib.hid hd
    have HDD := Lib.hid hdd
    obtain ⟨r, hr⟩ : ∃ r : Nat, r = n % 10 := ⟨_, rfl⟩
    have hr10 : r < 10 := by omega
    have hr1 : (n : Int) % 10 = (r : Int) := by omega
    rw [← hr] at HD HDD
    have htm : Int.tmod (n : Int) 10 = (r : Int) := by rw [Int.tmod_eq_emod_of_nonneg (by omega)]; exact hr1
    have hw := IntWalk.i64_in ((n : Int) / 10) (by omega)
    have hw2 := IntWalk.i64_in ((r : Int) + 1) (by omega)
    have hsz := digits_size (n := n / 10) (by omega)
    obtain ⟨T, hT⟩ : ∃ T, T = ba (Lib.decDigits (n / 10)) := ⟨_, rfl⟩
    rw [← hT] at HQ hsz
    have HTT := Lib.hid hT
    clear ih hd hdd hr hT
    go_enter Tryd.func21, Tryd.ntmps21
    go_wp2_with fail
    go_quiet (with_reducible exact HQ.out _)
    go_wp2_with fail
    go_ret
    refine ⟨?_, _, rfl⟩
    rw [HDD.out, ← ba_app, ← HTT.out, ← HD.out]
    rfl
theorem l1Num_any (n : Int) (w : World) (h0 : -100000000 ≤ n) (h1 : n ≤ 100000000) :
    Calls Tryd.prog 21 #[.int .i64 n] w fun e w' => e = .returned (.string (ba (Lib.itoa n))) ∧ Below w.heap.size w w' := by
  by_cases h : n < 0
  · obtain ⟨m, rfl⟩ : ∃ m : Nat, n = -(m : Int) := ⟨n.natAbs, by omega⟩
    have HQ := Lib.hid (l1Num_q m w (by omega))
    have hsz := digits_size (n := m) (by omega)
    obtain ⟨T, hT⟩ : ∃ T, T = ba (Lib.decDigits m) := ⟨_, rfl⟩
    rw [← hT] at HQ hsz
    have HTT := Lib.hid hT
    clear hT
    have HI := Lib.hid (show Lib.itoa (-(m : Int)) = 45 :: Lib.decDigits m by unfold Lib.itoa; rw [if_pos h]; simp)
    go_enter Tryd.func21, Tryd.ntmps21
    go_wp2_with fail
    (with_reducible refine HQ.out.mono ?_)
    rintro e w1 ⟨rfl, k, rfl⟩
    go_wp2_with fail
    go_ret
    refine ⟨?_, below_drewN' (Below.refl _ _) k⟩
    rw [HI.out, show (45 :: Lib.decDigits m) = [45] ++ Lib.decDigits m from rfl, ← ba_app, ← HTT.out]
    rfl
  · obtain ⟨m, rfl⟩ := Int.eq_ofNat_of_zero_le (show 0 ≤ n by omega)
    have HI : Lib.itoa (m : Int) = Lib.decDigits m := by unfold Lib.itoa; rw [if_neg h]; simp
    rw [HI]
    exact (l1Num_q m w (by omega)).mono fun e w' ⟨h, k, hk⟩ => ⟨h, by rw [hk]; exact below_drewN' (Below.refl _ _) k⟩

end Go.Proofs.YtbobohfhplfpgaaDoor
