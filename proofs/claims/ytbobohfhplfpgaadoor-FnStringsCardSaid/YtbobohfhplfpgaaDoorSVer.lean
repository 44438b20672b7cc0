/- The program's sealed texts: AppendChecksum, strings.Cut at one byte, VerifyChecksum, walked. -/
import Derived.Test.YtbobohfhplfpgaaDoorSSeal
import Derived.Lib.IndexLaws
import Derived.OwnWalk
set_option linter.unusedVariables false
namespace Go.Proofs.YtbobohfhplfpgaaDoor
open Go.RowKit

theorem index_hit : ∀ {x r : List UInt8} {c : UInt8}, c ∉ x → Lib.indexByte (x ++ c :: r) c = (x.length : Int)
  | [], r, c, _ => by simp [Lib.indexByte]
  | a :: x, r, c, h => by
    have ha : ¬ (a == c) = true := fun e => h (by rw [eq_of_beq e]; exact List.mem_cons_self)
    rw [List.cons_append, Lib.indexByte, if_neg ha, index_hit fun e => h (List.mem_cons_of_mem _ e), if_neg (by simp), List.length_cons]
    omega
theorem index_miss : ∀ {x : List UInt8} {c : UInt8}, c ∉ x → Lib.indexByte x c = -1
  | [], c, _ => rfl
  | a :: x, c, h => by
    have ha : ¬ (a == c) = true := fun e => h (by rw [eq_of_beq e]; exact List.mem_cons_self)
    rw [Lib.indexByte, if_neg ha, index_miss fun e => h (List.mem_cons_of_mem _ e)]
    rfl
theorem cut_split {l : List UInt8} (h : (35 : UInt8) ∈ l) : ∃ r, l = cutAt l ++ 35 :: r := by
  induction l with
  | nil => cases h
  | cons a l ih =>
    by_cases ha : a = 35
    · subst ha
      exact ⟨l, rfl⟩
    · rcases List.mem_cons.1 h with h | h
      · exact absurd h.symm ha
      · obtain ⟨r, hr⟩ := ih h
        refine ⟨r, ?_⟩
        have e : cutAt (a :: l) = a :: cutAt l := by
          unfold cutAt
          rw [List.takeWhile_cons, if_pos (by simpa using ha)]
        rw [e, List.cons_append, ← hr]
theorem index_has (l : List UInt8) : decide (0 ≤ Lib.indexByte l 35) = decide ((35 : UInt8) ∈ l) := by
  by_cases h : (35 : UInt8) ∈ l
  · obtain ⟨r, hr⟩ := cut_split h
    rw [decide_eq_true h, hr, index_hit (cut_no l), decide_eq_true (by omega)]
  · rw [decide_eq_false h, index_miss h, decide_eq_false (by omega)]
theorem ba_take (x r : List UInt8) : (ba (x ++ r)).extract 0 x.length = ba x := by
  apply ByteArray.ext
  simp [ba]

set_option maxHeartbeats 2000000 in
theorem appendI_any (l : List UInt8) (w : World) (hw : SW w) (hl : l.length ≤ 1000000) :
    Calls Tryd.prog 12 #[.string (ba l)] w fun e w' => e = .returned (.tuple #[.string (if okS l then ba (sealS l) else ba []), .bool (okS l)]) ∧ Below w.heap.size w w' := by
  have hcs := csum_lt l
  have HS := Lib.hid (fun w => sumI_any l w hl)
  have HN := Lib.hid (decI_any (csum l : Nat) w hw (by omega) (by omega))
  have HC := Lib.hid (fun w => Any.strings_Contains_one Tryd.lays144 (ba l) 35 w)
  rw [ba_list, index_has] at HC
  have HE := Lib.hid (seal_ba l)
  have hsz := ba_size l
  have hsz2 := itoa_sum l
  have hsz3 := ba_size (sealS l)
  have h35 : (⟨#[35]⟩ : ByteArray).size = 1 := rfl
  clear hw
  by_cases h1 : l.length ≤ 4000
  · by_cases h2 : (35 : UInt8) ∈ l
    · have HO := Lib.hid (okS_has h2)
      rw [decide_eq_true h2] at HC
      clear h2
      generalize ba l = S at *
      rw [HO.out, if_neg (by decide)]
      go_enter Tryd.func12, Tryd.ntmps12
      go_wp2_with fail
      refine (HC.out _).mono ?_
      rintro e w1 ⟨rfl, rfl⟩
      go_wp2_with fail
      go_ret2
      exact ⟨rfl, Below.refl _ _⟩
    · rw [decide_eq_false h2] at HC
      generalize ba (Lib.itoa (csum l : Nat)) = T at *
      generalize (csum l : Nat) = c at *
      generalize hU : ba (sealS l) = U at *
      have HE' := HE.out
      clear HE hU
      have hs4 : (ba l ++ ⟨#[35]⟩ ++ T).size = U.size := by rw [HE']
      have HE := Lib.hid HE'
      clear HE'
      by_cases h3 : (sealS l).length ≤ 4000
      · have HO := Lib.hid (okS_true h1 h2 h3)
        clear h2
        generalize ba l = S at *
        rw [HO.out, if_pos rfl]
        go_enter Tryd.func12, Tryd.ntmps12
        go_wp2_with fail
        refine (HC.out _).mono ?_
        rintro e w1 ⟨rfl, rfl⟩
        go_wp2_with fail
        refine (HS.out _).mono ?_
        rintro e w1 ⟨rfl, rfl⟩
        go_wp2_with fail
        refine HN.out.mono ?_
        rintro e w2 ⟨rfl, hb2⟩
        have HB2 := Lib.hid hb2
        clear hb2
        go_wp2_with fail
        go_ret2
        exact ⟨by rw [← HE.out]; rfl, HB2.out⟩
      · have HO := Lib.hid (okS_seal h3)
        clear h2
        generalize ba l = S at *
        rw [HO.out, if_neg (by decide)]
        go_enter Tryd.func12, Tryd.ntmps12
        go_wp2_with fail
        refine (HC.out _).mono ?_
        rintro e w1 ⟨rfl, rfl⟩
        go_wp2_with fail
        refine (HS.out _).mono ?_
        rintro e w1 ⟨rfl, rfl⟩
        go_wp2_with fail
        refine HN.out.mono ?_
        rintro e w2 ⟨rfl, hb2⟩
        have HB2 := Lib.hid hb2
        clear hb2
        go_wp2_with fail
        go_ret2
        exact ⟨rfl, HB2.out⟩
  · have HO := Lib.hid (okS_long h1)
    generalize ba l = S at *
    rw [HO.out, if_neg (by decide)]
    go_enter Tryd.func12, Tryd.ntmps12
    go_wp2_with fail
    go_ret2
    exact ⟨rfl, Below.refl _ _⟩

end Go.Proofs.YtbobohfhplfpgaaDoor
