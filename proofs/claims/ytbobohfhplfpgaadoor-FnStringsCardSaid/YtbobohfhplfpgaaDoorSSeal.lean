/- The sealed texts of both, walked. -/
import Derived.Test.YtbobohfhplfpgaaDoorSSum
set_option linter.unusedVariables false
namespace Go.Proofs.YtbobohfhplfpgaaDoor
open Go.RowKit

def sealS (l : List UInt8) : List UInt8 := sealT Lib.decDigits l
theorem digits_le7 (l : List UInt8) : (Lib.decDigits (csum l)).length ≤ 6 := digits_len 5 _ (by have := csum_lt l; omega)
theorem seal_len (l : List UInt8) : (sealS l).length ≤ l.length + 7 := by
  have := digits_le7 l
  simp [sealS, sealT]
  omega
theorem seal_ba (l : List UInt8) : ba l ++ ⟨#[35]⟩ ++ ba (Lib.itoa (csum l : Nat)) = ba (sealS l) := by
  rw [Lib.itoa_nonneg, show (⟨#[35]⟩ : ByteArray) = ba [35] from rfl, ba_app, ba_app]
  simp [sealS, sealT]
theorem itoa_sum (l : List UInt8) : (ba (Lib.itoa (csum l : Nat))).size ≤ 6 := by
  rw [Lib.itoa_nonneg, ba_size]
  exact digits_le7 l

set_option maxHeartbeats 1000000 in
theorem seal_any (l : List UInt8) (w : World) (hl : l.length ≤ 1000000) :
    Calls Tryd.prog 30 #[.string (ba l)] w fun e w' => e = .returned (.string (ba (sealS l))) ∧ Below w.heap.size w w' := by
  have hc := csum_lt l
  have HS := Lib.hid (fun w => sumS_any l w hl)
  have HN := Lib.hid (fun w => l1Num_any (csum l : Nat) w (by omega) (by omega))
  have HE := Lib.hid (seal_ba l)
  have hsz := ba_size l
  have hsz2 := itoa_sum l
  have h35 : (⟨#[35]⟩ : ByteArray).size = 1 := rfl
  generalize ba (Lib.itoa (csum l : Nat)) = T at *
  generalize (csum l : Nat) = c at *
  generalize ba l = S at *
  go_enter Tryd.func30, Tryd.ntmps30
  go_wp2_with fail
  refine (HS.out _).mono ?_
  rintro e w1 ⟨rfl, rfl⟩
  go_wp2_with fail
  refine (HN.out _).mono ?_
  rintro e w2 ⟨rfl, h2⟩
  have HB2 := Lib.hid h2
  clear h2
  go_wp2_with fail
  go_ret
  exact ⟨by rw [← HE.out]; rfl, HB2.out⟩

/-- What both answer. -/
def okS (l : List UInt8) : Bool := decide (l.length ≤ 4000) && !(decide ((35 : UInt8) ∈ l)) && decide ((sealS l).length ≤ 4000)
theorem okS_true {l : List UInt8} (h1 : l.length ≤ 4000) (h2 : (35 : UInt8) ∉ l) (h3 : (sealS l).length ≤ 4000) : okS l = true := by simp [okS, h1, h2, h3]
theorem okS_long {l : List UInt8} (h1 : ¬ l.length ≤ 4000) : okS l = false := by
  unfold okS
  rw [decide_eq_false h1]
  rfl
theorem okS_has {l : List UInt8} (h2 : (35 : UInt8) ∈ l) : okS l = false := by
  unfold okS
  rw [decide_eq_true h2]
  simp
theorem okS_seal {l : List UInt8} (h3 : ¬ (sealS l).length ≤ 4000) : okS l = false := by
  unfold okS
  rw [decide_eq_false h3]
  simp

set_option maxHeartbeats 2000000 in
theorem appendS_any (l : List UInt8) (w : World) (hl : l.length ≤ 1000000) :
    Calls Tryd.prog 13 #[.string (ba l)] w fun e w' => e = .returned (.tuple #[.string (if okS l then ba (sealS l) else ba []), .bool (okS l)]) ∧ Below w.heap.size w w' := by
  have HS := Lib.hid (fun w => seal_any l w hl)
  have HT := Lib.hid (fun w => stands_any l 35 w hl)
  have hsz := ba_size l
  have hsz2 := ba_size (sealS l)
  by_cases h1 : l.length ≤ 4000
  · by_cases h2 : (35 : UInt8) ∈ l
    · have HO := Lib.hid (okS_has h2)
      rw [decide_eq_true h2] at HT
      clear h2
      generalize ba l = S at *
      rw [HO.out, if_neg (by decide)]
      go_enter Tryd.func13, Tryd.ntmps13
      go_wp2_with fail
      refine (HT.out _).mono ?_
      rintro e w1 ⟨rfl, rfl⟩
      go_wp2_with fail
      go_ret2
      exact ⟨rfl, Below.refl _ _⟩
    · by_cases h3 : (sealS l).length ≤ 4000
      · have HO := Lib.hid (okS_true h1 h2 h3)
        rw [decide_eq_false h2] at HT
        clear h2
        rw [HO.out, if_pos rfl]
        generalize ba (sealS l) = U at *
        generalize ba l = S at *
        go_enter Tryd.func13, Tryd.ntmps13
        go_wp2_with fail
        refine (HT.out _).mono ?_
        rintro e w1 ⟨rfl, rfl⟩
        go_wp2_with fail
        refine (HS.out _).mono ?_
        rintro e w2 ⟨rfl, hb2⟩
        have HB2 := Lib.hid hb2
        clear hb2
        go_wp2_with fail
        refine (HS.out _).mono ?_
        rintro e w3 ⟨rfl, hb3⟩
        have HB3 := Lib.hid (HB2.out.trans (hb3.mono HB2.out.size))
        clear hb3
        go_wp2_with fail
        go_ret2
        exact ⟨rfl, HB3.out⟩
      · have HO := Lib.hid (okS_seal h3)
        rw [decide_eq_false h2] at HT
        clear h2
        rw [HO.out, if_neg (by decide)]
        generalize ba (sealS l) = U at *
        generalize ba l = S at *
        go_enter Tryd.func13, Tryd.ntmps13
        go_wp2_with fail
        refine (HT.out _).mono ?_
        rintro e w1 ⟨rfl, rfl⟩
        go_wp2_with fail
        refine (HS.out _).mono ?_
        rintro e w2 ⟨rfl, hb2⟩
        have HB2 := Lib.hid hb2
        clear hb2
        go_wp2_with fail
        go_ret2
        exact ⟨rfl, HB2.out⟩
  · have HO := Lib.hid (okS_long h1)
    generalize ba l = S at *
    rw [HO.out, if_neg (by decide)]
    go_enter Tryd.func13, Tryd.ntmps13
    go_wp2_with fail
    go_ret2
    exact ⟨rfl, Below.refl _ _⟩

end Go.Proofs.YtbobohfhplfpgaaDoor
