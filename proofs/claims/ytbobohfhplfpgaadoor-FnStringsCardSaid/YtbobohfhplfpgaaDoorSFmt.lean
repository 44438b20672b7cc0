/- The reference's FormatInt and ParseInt, walked. -/
import Derived.Test.YtbobohfhplfpgaaDoorSRead
set_option linter.unusedVariables false
namespace Go.Proofs.YtbobohfhplfpgaaDoor
open Go.RowKit

theorem parseS_any (l : List UInt8) (w : World) (hl : l.length ≤ 1000000) :
    Calls Tryd.prog 10 #[.string (ba l)] w fun e w' => RDE l e ∧ Below w.heap.size w w' := by
  have H := Lib.hid (l1Read_any l w hl)
  generalize ba l = S at *
  go_enter Tryd.func10, Tryd.ntmps10
  go_wp2_with fail
  refine H.out.mono ?_
  rintro e w2 ⟨⟨v, ok, rfl, h⟩, h2⟩
  have HB2 := Lib.hid h2
  have HR := Lib.hid h
  clear h2 h
  go_wp2_with fail
  go_ret2
  exact ⟨⟨_, _, rfl, HR.out⟩, HB2.out⟩

theorem formatS_any (n : Int) (w : World) (h0 : -9223372036854775808 ≤ n) (h1 : n ≤ 9223372036854775807) :
    Calls Tryd.prog 7 #[.int .i64 n] w fun e w' => (e = if -999999 ≤ n ∧ n ≤ 999999 then .returned (.tuple #[.string (ba (Lib.itoa n)), .bool true]) else .returned (.tuple #[.string (ba []), .bool false])) ∧ Below w.heap.size w w' := by
  by_cases ha : -999999 ≤ n
  · by_cases hb : n ≤ 999999
    · rw [if_pos ⟨ha, hb⟩]
      have HD := Lib.hid (l1Num_any n w (by omega) (by omega))
      go_enter Tryd.func7, Tryd.ntmps7
      go_wp2_with fail
      refine (l1InB_any _ _ _ _ true (by simp [ha, hb])).mono ?_
      rintro e wq ⟨rfl, rfl⟩
      go_wp2_with fail
      refine HD.out.mono ?_
      rintro e w2 ⟨rfl, h2⟩
      have HB2 := Lib.hid h2
      clear h2
      go_wp2_with fail
      go_ret2
      exact ⟨rfl, HB2.out⟩
    · rw [if_neg (fun h => hb h.2)]
      go_enter Tryd.func7, Tryd.ntmps7
      go_wp2_with fail
      refine (l1InB_any _ _ _ _ false (by simp [hb])).mono ?_
      rintro e wq ⟨rfl, rfl⟩
      go_wp2_with fail
      go_ret2
      exact ⟨rfl, Below.refl _ _⟩
  · rw [if_neg (fun h => ha h.1)]
    go_enter Tryd.func7, Tryd.ntmps7
    go_wp2_with fail
    refine (l1InB_any _ _ _ _ false (by simp; omega)).mono ?_
    rintro e wq ⟨rfl, rfl⟩
    go_wp2_with fail
    go_ret2
    exact ⟨rfl, Below.refl _ _⟩

end Go.Proofs.YtbobohfhplfpgaaDoor
