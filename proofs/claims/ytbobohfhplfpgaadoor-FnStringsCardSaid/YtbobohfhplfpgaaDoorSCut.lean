/- strings.Cut at one byte and VerifyChecksum, walked. -/
import Derived.Test.YtbobohfhplfpgaaDoorSVer
set_option linter.unusedVariables false
namespace Go.Proofs.YtbobohfhplfpgaaDoor
open Go.RowKit

theorem index1_any (l : List UInt8) (w : World) :
    Calls Tryd.prog 41 #[.string (ba l), .string ⟨#[35]⟩] w fun e w' => e = .returned (.int .i64 (Lib.indexByte l 35)) ∧ w = w' := by
  have H := Any.stringslite_Index_one ({ Tryd.lays145 with } : Go.Proofs.Lays.n219 Tryd.prog Tryd.lays145_ren) (ba l) 35 w
  rw [ba_list] at H
  exact H.mono fun e w' h => ⟨h.1, h.2.symm⟩

set_option maxRecDepth 100000 in
set_option maxHeartbeats 2000000 in
theorem cut1_any (l : List UInt8) (w : World) (hl : l.length ≤ 1000000) :
    Calls Tryd.prog 37 #[.string (ba l), .string ⟨#[35]⟩] w fun e w' => (∃ r b, e = .returned (.tuple #[.string (ba (cutAt l)), .string r, .bool b])) ∧ ∃ n, w' = w.drewN n := by
  have HI := Lib.hid (index1_any l)
  have hsz := ba_size l
  have h35 : (⟨#[35]⟩ : ByteArray).size = 1 := rfl
  by_cases h2 : (35 : UInt8) ∈ l
  · obtain ⟨r, hr⟩ := cut_split h2
    have hI : Lib.indexByte l 35 = ((cutAt l).length : Int) := (show ∀ x r, (35 : UInt8) ∉ x → l = x ++ 35 :: r → Lib.indexByte l 35 = (x.length : Int) by rintro x r h rfl; exact index_hit h) _ _ (cut_no l) hr
    rw [hI] at HI
    have HE := Lib.hid ((show ∀ x r, l = x ++ 35 :: r → (ba l).extract 0 x.length = ba x by rintro x r rfl; exact ba_take _ _) _ _ hr)
    have hk : (cutAt l).length + 1 ≤ l.length := (show ∀ x r, l = x ++ 35 :: r → x.length + 1 ≤ l.length by rintro x r rfl; simp) _ _ hr
    clear h2 hr hI
    generalize ba (cutAt l) = U at *
    generalize (cutAt l).length = k at *
    generalize ba l = S at *
    have mixed : Tryd.prog.follows .mixedOrders = true := by kernel_rfl
    have c5 : k ≤ l.length := by omega
    have c6 : (k : Int) + 1 ≤ (l.length : Int) := by omega
    have c7 : (k : Int) ≤ (l.length : Int) := by omega
    have c1 : (0 : Int) ≤ k := by omega
    have c2 : (k : Int) ≤ S.size := by omega
    have c3 : (0 : Int) ≤ k + 1 := by omega
    have c4 : (k : Int) + 1 ≤ S.size := by omega
    go_enter Tryd.func37, Tryd.ntmps37
    go_wp2_with fail
    refine (HI.out _).mono ?_
    rintro e w1 ⟨rfl, rfl⟩
    go_wp2_with fail
    go_region_o
    go_wp2_with fail
    go_ret3
    exact ⟨⟨_, _, by rw [← HE.out]; rfl⟩, 1, rfl⟩
  · rw [index_miss h2] at HI
    rw [cut_all h2]
    clear h2
    generalize ba l = S at *
    go_enter Tryd.func37, Tryd.ntmps37
    go_wp2_with fail
    refine (HI.out _).mono ?_
    rintro e w1 ⟨rfl, rfl⟩
    go_wp2_with fail
    go_ret3
    exact ⟨⟨_, _, rfl⟩, 0, rfl⟩

set_option maxHeartbeats 1000000 in
theorem cutS_any (l : List UInt8) (w : World) (hl : l.length ≤ 1000000) :
    Calls Tryd.prog 31 #[.string (ba l), .string ⟨#[35]⟩] w fun e w' => (∃ r b, e = .returned (.tuple #[.string (ba (cutAt l)), .string r, .bool b])) ∧ ∃ n, w' = w.drewN n := by
  have H := Lib.hid (cut1_any l w hl)
  generalize ba (cutAt l) = U at *
  generalize ba l = S at *
  go_enter Tryd.func31, Tryd.ntmps31
  go_wp2_with fail
  refine H.out.mono ?_
  rintro e w1 ⟨⟨r, b, rfl⟩, n, rfl⟩
  go_wp2_with fail
  go_ret3
  exact ⟨⟨_, _, rfl⟩, n, rfl⟩

/-- Whether a text is a sealed one. -/
def okV (l : List UInt8) : Bool := decide (l.length ≤ 4000) && okS (cutAt l) && (sealS (cutAt l) == l)

set_option maxHeartbeats 2000000 in
theorem verify_any (l : List UInt8) (w : World) (hw : SW w) (hl : l.length ≤ 1000000) :
    Calls Tryd.prog 14 #[.string (ba l)] w fun e w' => e = .returned (.tuple #[.string (if okV l then ba (cutAt l) else ba []), .bool (okV l)]) ∧ Below w.heap.size w w' := by
  have hcl : (cutAt l).length ≤ l.length := (List.takeWhile_prefix _).length_le
  have HC := Lib.hid (cutS_any l w hl)
  have HA := Lib.hid (fun n => appendI_any (cutAt l) (w.drewN n) (hw.below (below_drewN' (Below.refl _ _) n)) (by omega))
  have hsz := ba_size l
  have hsz2 := ba_size (cutAt l)
  clear hw
  by_cases h1 : l.length ≤ 4000
  · cases hs : okS (cutAt l) with
    | false =>
      have HO := Lib.hid (show okV l = false by unfold okV; rw [hs]; simp)
      rw [hs] at HA
      clear hs
      generalize ba (cutAt l) = U at *
      generalize ba l = S at *
      rw [HO.out, if_neg (by decide)]
      go_enter Tryd.func14, Tryd.ntmps14
      go_wp2_with fail
      refine HC.out.mono ?_
      rintro e w1 ⟨⟨r, b, rfl⟩, n, rfl⟩
      go_wp2_with fail
      refine (HA.out n).mono ?_
      rintro e w2 ⟨rfl, hb⟩
      have HB2 := Lib.hid ((below_drewN' (Below.refl _ w) n).trans (hb.mono (Nat.le_refl _)))
      clear hb
      go_wp2_with fail
      go_ret2
      exact ⟨rfl, HB2.out⟩
    | true =>
      rw [hs] at HA
      simp only [if_pos] at HA
      by_cases he : sealS (cutAt l) = l
      · have HO := Lib.hid (show okV l = true by unfold okV; rw [hs, he]; simp [h1])
        rw [he] at HA
        clear hs he
        have hf := str_eq (ba l)
        generalize ba (cutAt l) = U at *
        generalize ba l = S at *
        rw [HO.out, if_pos rfl]
        go_enter Tryd.func14, Tryd.ntmps14
        go_wp2_with fail
        refine HC.out.mono ?_
        rintro e w1 ⟨⟨r, b, rfl⟩, n, rfl⟩
        go_wp2_with fail
        refine (HA.out n).mono ?_
        rintro e w2 ⟨rfl, hb⟩
        have HB2 := Lib.hid ((below_drewN' (Below.refl _ w) n).trans (hb.mono (Nat.le_refl _)))
        clear hb
        go_wp2_with fail
        go_ret2
        exact ⟨rfl, HB2.out⟩
      · have HO := Lib.hid (show okV l = false by unfold okV; rw [beq_eq_false_iff_ne.2 he]; simp)
        have hf := str_ne (x := ba (sealS (cutAt l))) (y := ba l) (fun h => he (by rw [← ba_list (sealS (cutAt l)), h, ba_list]))
        clear hs he
        generalize ba (sealS (cutAt l)) = V at *
        generalize ba (cutAt l) = U at *
        generalize ba l = S at *
        rw [HO.out, if_neg (by decide)]
        go_enter Tryd.func14, Tryd.ntmps14
        go_wp2_with fail
        refine HC.out.mono ?_
        rintro e w1 ⟨⟨r, b, rfl⟩, n, rfl⟩
        go_wp2_with fail
        refine (HA.out n).mono ?_
        rintro e w2 ⟨rfl, hb⟩
        have HB2 := Lib.hid ((below_drewN' (Below.refl _ w) n).trans (hb.mono (Nat.le_refl _)))
        clear hb
        go_wp2_with fail
        go_ret2
        exact ⟨rfl, HB2.out⟩
  · have HO := Lib.hid (show okV l = false by unfold okV; rw [decide_eq_false h1]; rfl)
    generalize ba l = S at *
    rw [HO.out, if_neg (by decide)]
    go_enter Tryd.func14, Tryd.ntmps14
    go_wp2_with fail
    go_ret2
    exact ⟨rfl, Below.refl _ _⟩

end Go.Proofs.YtbobohfhplfpgaaDoor
