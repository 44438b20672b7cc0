/- The law FnStrings: to the verification of the sealed text (region 19); the rest under way. -/
import Derived.Test.YtbobohfhplfpgaaDoorSXor
import Derived.Test.YtbobohfhplfpgaaDoorRegInv
set_option linter.unusedVariables false
set_option linter.unusedSimpArgs false
namespace Go.Proofs.YtbobohfhplfpgaaDoor
open Go.RowKit

def fL (n : Int) : List UInt8 := if -999999 ≤ n ∧ n ≤ 999999 then Lib.itoa n else []
def okF (n : Int) : Bool := decide (-999999 ≤ n ∧ n ≤ 999999)
theorem fmt_ends (n : Int) : (if -999999 ≤ n ∧ n ≤ 999999 then Ending.returned (.tuple #[.string (ba (Lib.itoa n)), .bool true]) else Ending.returned (.tuple #[.string (ba []), .bool false])) = Ending.returned (.tuple #[.string (ba (fL n)), .bool (okF n)]) := by
  unfold fL okF
  split
  · rename_i h
    simp [h]
  · rename_i h
    rw [decide_eq_false h]
theorem fL_len {n : Int} (h0 : -1000000 ≤ n) (h1 : n ≤ 1000000) : (fL n).length ≤ 21 := by
  unfold fL
  split
  · exact Lib.itoa_length_le n (by omega) (by omega)
  · simp
theorem fL_back {n v : Int} {ok : Bool} (h : RD (fL n) v ok) (ho : okF n = true) : v = n ∧ ok = true := by
  have hr := of_decide_eq_true ho
  unfold fL at h
  rw [if_pos hr] at h
  exact h.back hr.1 hr.2
theorem okV_seal {x : List UInt8} (h : okS x = true) : okV (sealS x) = true ∧ cutAt (sealS x) = x := by
  have h1 := h
  unfold okS at h1
  simp only [Bool.and_eq_true, decide_eq_true_eq, Bool.not_eq_true', decide_eq_false_iff_not] at h1
  have hc : cutAt (sealS x) = x := cut_sealT h1.1.2
  refine ⟨?_, hc⟩
  unfold okV
  rw [hc, h, decide_eq_true h1.2]
  simp
theorem okV_changed {x : List UInt8} (h : okS x = true) {k : Nat} {a c : UInt8} (hk : (sealS x)[k]? = some a) (hc : c ≠ a) : okV ((sealS x).set k c) = false := by
  unfold okS at h
  simp only [Bool.and_eq_true, decide_eq_true_eq, Bool.not_eq_true', decide_eq_false_iff_not] at h
  have := sealT_changed digits_text h.1.2 hk hc
  unfold okV
  rw [show (sealS (cutAt ((sealS x).set k c)) == (sealS x).set k c) = false from beq_eq_false_iff_ne.2 this]
  simp
theorem vBigS_any (A : Option Addr) (n c : Nat) (w : World) (t : Bool) (ht : t = decide (65536 < n)) (hn : n ≤ maxLen) :
    Calls Tryd.prog 4 #[.slice A n c] w fun e w' => e = .returned (.bool t) ∧ w = w' := by
  subst ht
  by_cases h : 65536 < n
  · have h' : (65536 : Int) < (n : Int) := by omega
    go_enter Tryd.func4, Tryd.ntmps4
    go_wp2
    go_ret
    exact ⟨by simp [h], rfl⟩
  · have h' : ¬ (65536 : Int) < (n : Int) := by omega
    go_enter Tryd.func4, Tryd.ntmps4
    go_wp2
    go_ret
    exact ⟨by simp [h], rfl⟩

set_option maxRecDepth 100000 in
set_option maxHeartbeats 8000000 in
theorem lawFnStrings (A : Option Addr) (bs : List Int) (c : Nat) (w : World) (hA : Cells w A (u8s bs)) (hrng : ∀ x ∈ bs, 0 ≤ x ∧ x < 256) (hlen : bs.length ≤ maxLen) (hw : SW w) :
    Calls Tryd.prog 3 #[.slice A bs.length c] w fun e w' => e = .returned (.bool true) ∧ Below w.heap.size w w' := by
  have HA := Lib.hid hA
  have HR := Lib.hid hrng
  have HW := Lib.hid hw
  clear hA hrng hw
  by_cases hbig : 65536 < bs.length
  · go_enter Tryd.func3, Tryd.ntmps3
    go_wp2_with fail
    refine (vBigS_any A bs.length c w true (decide_eq_true hbig).symm hlen).mono ?_
    rintro e w1 ⟨rfl, rfl⟩
    go_wp2_with fail
    go_ret
    exact ⟨rfl, Below.refl _ _⟩
  · go_enter Tryd.func3, Tryd.ntmps3
    go_wp2_with fail
    refine (vBigS_any A bs.length c w false (decide_eq_false hbig).symm hlen).mono ?_
    rintro e w1 ⟨rfl, rfl⟩
    go_wp2_with fail
    refine (drawFormatInt_any A bs c w HA.out HR.out (by omega)).mono ?_
    rintro e w1 ⟨n, rfl, hn0, hn1, hb⟩
    have HB1 := Lib.hid hb
    clear hb
    go_wp2_with fail
    refine (FormatI_any n w1 (HW.out.below HB1.out) (by omega) (by omega)).mono ?_
    rintro e w2 ⟨he, hb⟩
    rw [fmt_ends] at he
    subst he
    have HB2 := Lib.hid (HB1.out.trans (hb.mono HB1.out.size))
    have HFL := Lib.hid (fL_len hn0 hn1)
    clear hb
    have HFB := Lib.hid (fun v ok (h : RD (fL n) v ok) => fL_back h)
    have HF1 := Lib.hid (fun w => formatS_any n w (by omega) (by omega))
    rw [fmt_ends] at HF1
    have HP4 := Lib.hid (fun w hw => ParseI_any (fL n) w hw (by have := HFL.out; omega))
    have hsf := str_eq (ba (fL n))
    generalize ba (fL n) = F at *
    generalize okF n = o at *
    go_wp2_with fail
    refine (HF1.out w2).mono ?_
    rintro e w3 ⟨rfl, hb⟩
    have HB3 := Lib.hid (HB2.out.trans (hb.mono HB2.out.size))
    clear hb
    go_wp2_with fail
    refine (drawParseInt_any A bs c w3 (HA.out.below HB3.out) HR.out (by omega)).mono ?_
    rintro e w4 ⟨t, rfl, ht, hb⟩
    have HB4 := Lib.hid (HB3.out.trans (hb.mono HB3.out.size))
    clear hb
    go_wp2_with fail
    refine (ParseI_any t w4 (HW.out.below HB4.out) (by omega)).mono ?_
    rintro e w5 ⟨⟨m, fine, rfl, hrd⟩, hb⟩
    have HRD := Lib.hid hrd
    have HB5 := Lib.hid (HB4.out.trans (hb.mono HB4.out.size))
    clear hb hrd
    go_wp2_with fail
    refine (parseS_any t w5 (by omega)).mono ?_
    rintro e w6 ⟨⟨m', fine', rfl, hrd⟩, hb⟩
    obtain ⟨rfl, rfl⟩ := HRD.out.same hrd
    have HB6 := Lib.hid (HB5.out.trans (hb.mono HB5.out.size))
    clear hb hrd
    go_wp2_with fail
    refine (drawAppend_any A bs c w6 (HA.out.below HB6.out) HR.out (by omega)).mono ?_
    rintro e w7 ⟨x, rfl, hx, hb⟩
    have HB7 := Lib.hid (HB6.out.trans (hb.mono HB6.out.size))
    clear hb
    go_wp2_with fail
    cases hs : okS x with
    | false =>
      have HS := Lib.hid hs
      clear hs
      have HAI := Lib.hid (fun w hw => appendI_any x w hw (by omega))
      have HAS := Lib.hid (fun w => appendS_any x w (by omega))
      rw [HS.out] at HAI HAS
      rw [if_neg (by decide)] at HAI HAS
      have hse := str_eq (⟨#[]⟩ : ByteArray)
      have HAI := Lib.hid (show ∀ w, SW w → Calls Tryd.prog 12 #[.string (ba x)] w fun e w' => e = .returned (.tuple #[.string ⟨#[]⟩, .bool false]) ∧ Below w.heap.size w w' from HAI.out)
      have HAS := Lib.hid (show ∀ w, Calls Tryd.prog 13 #[.string (ba x)] w fun e w' => e = .returned (.tuple #[.string ⟨#[]⟩, .bool false]) ∧ Below w.heap.size w w' from HAS.out)
      refine (HAI.out w7 (HW.out.below HB7.out)).mono ?_
      rintro e w8 ⟨rfl, hb⟩
      have HB8 := Lib.hid (HB7.out.trans (hb.mono HB7.out.size))
      clear hb
      go_wp2_with fail
      refine (HAS.out w8).mono ?_
      rintro e w9 ⟨rfl, hb⟩
      have HB9 := Lib.hid (HB8.out.trans (hb.mono HB8.out.size))
      clear hb
      go_wp2_with fail
      refine (HP4.out w9 (HW.out.below HB9.out)).mono ?_
      rintro e w10 ⟨⟨v, ok', rfl, hrd⟩, hb⟩
      have HB10 := Lib.hid (HB9.out.trans (hb.mono HB9.out.size))
      have hbk := HFB.out v ok' hrd
      clear hb hrd
      cases o with
      | false =>
        go_wp2_with fail
        go_ret
        exact ⟨rfl, HB10.out⟩
      | true =>
        obtain ⟨rfl, rfl⟩ := hbk rfl
        go_wp2_with fail
        go_ret
        exact ⟨rfl, HB10.out⟩
    | true =>
      have HS := Lib.hid hs
      clear hs
      have HAI := Lib.hid (fun w hw => appendI_any x w hw (by omega))
      have HAS := Lib.hid (fun w => appendS_any x w (by omega))
      rw [HS.out] at HAI HAS
      rw [if_pos rfl] at HAI HAS
      have hse := str_eq (ba (sealS x))
      have HVF := Lib.hid (fun w hw => verify_any (sealS x) w hw (by have := seal_len x; omega))
      rw [(okV_seal HS.out).1, (okV_seal HS.out).2, if_pos rfl] at HVF
      have hsx := str_eq (ba x)
      have HBA := Lib.hid (ba_list (sealS x))
      have hYs := ba_size (sealS x)
      generalize ba (sealS x) = Y at *
      generalize hX : ba x = X at *
      clear hX
      refine (HAI.out w7 (HW.out.below HB7.out)).mono ?_
      rintro e w8 ⟨rfl, hb⟩
      have HB8 := Lib.hid (HB7.out.trans (hb.mono HB7.out.size))
      clear hb
      go_wp2_with fail
      refine (HAS.out w8).mono ?_
      rintro e w9 ⟨rfl, hb⟩
      have HB9 := Lib.hid (HB8.out.trans (hb.mono HB8.out.size))
      clear hb
      go_wp2_with fail
      refine (HP4.out w9 (HW.out.below HB9.out)).mono ?_
      rintro e w10 ⟨⟨v, ok', rfl, hrd⟩, hb⟩
      have HB10 := Lib.hid (HB9.out.trans (hb.mono HB9.out.size))
      have hbk := HFB.out v ok' hrd
      clear hb hrd
      have hpos : 0 < Y.size := by rw [hYs]; simp [sealS, sealT]; omega
      cases o
      case' true => obtain ⟨rfl, rfl⟩ := hbk rfl
      all_goals
        go_wp2_with fail
        refine (HVF.out w10 (HW.out.below HB10.out)).mono ?_
        rintro e w11 ⟨rfl, hb⟩
        have HB11 := Lib.hid (HB10.out.trans (hb.mono HB10.out.size))
        clear hb
        obtain ⟨w12, hw12⟩ : ∃ w12, w12 = Lib.bytesWorld w11 5 Y := ⟨_, rfl⟩
        have hcv := Lib.run_convert_string_bytes (P := Tryd.prog) w11 9 22 5 Y Tryd.underlying9 Tryd.underlying22 Tryd.underlying5
        rw [← hw12] at hcv
        have HB12 := Lib.hid (HB11.out.trans ((show Below w11.heap.size w11 w12 from hw12 ▸ Joins.below_bytesWorld _ w11 5 Y (Nat.le_refl _)).mono HB11.out.size))
        have HCE := Lib.hid (show ∀ j (hj : j < Y.size), w12.cell? ⟨w11.heap.size, j, none⟩ = some (.int .u8 (Y.data.toList.getD j 0).toNat) from fun j hj => hw12 ▸ Lib.bytesWorld_cell w11 5 Y j hj)
        have HNW := Lib.hid (show w12.heap[w11.heap.size]? = some (.cells (Lib.bytesCells w11 5 Y) 5 ((Lib.bytesCells w11 5 Y).size, (Lib.bytesCells w11 5 Y).size + 1)) from hw12 ▸ Lib.bytesWorld_at_new w11 5 Y)
        have hgb := HB11.out.size
        clear hw12
        generalize grownCap w11 Y.size 0 5 = cap at hcv
        go_wp2_with fail
        refine (vAt_any A bs c 9 w12 (HA.out.below HB12.out) HR.out (by omega) (by omega)).mono ?_
        rintro e wq ⟨q, rfl, hq0, hq1, rfl⟩
        have hrem : q.tmod (Y.size : Int) = q % (Y.size : Int) := Int.tmod_eq_emod_of_nonneg hq0
        have hr0 := Int.emod_nonneg q (show (Y.size : Int) ≠ 0 by omega)
        have hr1 := Int.emod_lt_of_pos q (show (0 : Int) < Y.size by omega)
        rw [hYs] at hrem hr0 hr1
        obtain ⟨k, hk⟩ := Int.eq_ofNat_of_zero_le hr0
        rw [hk] at hrem hr1
        clear hr0 hk
        have hkl : k < (sealS x).length := by omega
        have hkc := HCE.out k (by omega)
        rw [HBA.out] at hkc
        obtain ⟨a, ha⟩ : ∃ a, (sealS x).getD k 0 = a := ⟨_, rfl⟩
        rw [ha] at hkc
        have HKA := Lib.hid hkc
        have HFZ := Lib.hid (show w12.frozen? ⟨w11.heap.size, k, none⟩ = false by
          have hz : k < (Lib.bytesCells w11 5 Y).size := by simp [Lib.bytesCells]; omega
          simp [World.frozen?, HNW.out]
          omega)
        have HGA := Lib.hid ha
        have hay := a.toNat_lt
        clear hkc ha
        go_wp2_with fail
      · refine wp_region_inv (by kernel_rfl) (fun L act W => ∃ (y : Int), act = ⟨#[Value.slice A bs.length c, undef, Value.bool false, Value.int IntKind.i64 v, Value.string F, Value.bool true, Value.string F, Value.bool true, Value.string (ba t), Value.int IntKind.i64 m, Value.bool fine, Value.int IntKind.i64 m, Value.bool fine, Value.string X, Value.string Y, Value.bool true, Value.string Y, Value.bool true, Value.int IntKind.i64 v, Value.bool true, Value.string X, Value.bool true, Value.slice (some ⟨w11.heap.size, 0, none⟩) (sealS x).length cap, Value.int IntKind.i64 (k : Int), undef, undef, Value.slice A bs.length c, Value.bool false, Value.slice A bs.length c, Value.int IntKind.i64 v, Value.tuple #[Value.string F, Value.bool true], Value.int IntKind.i64 v, Value.tuple #[Value.string F, Value.bool true], Value.string F, Value.bool true, Value.tuple #[Value.string F, Value.bool true], Value.int IntKind.i64 v, Value.tuple #[Value.string F, Value.bool true], Value.string F, Value.bool true, Value.slice A bs.length c, Value.string (ba t), Value.tuple #[Value.int IntKind.i64 m, Value.bool fine], Value.string (ba t), Value.tuple #[Value.int IntKind.i64 m, Value.bool fine], Value.int IntKind.i64 m, Value.bool fine, Value.tuple #[Value.int IntKind.i64 m, Value.bool fine], Value.string (ba t), Value.tuple #[Value.int IntKind.i64 m, Value.bool fine], Value.int IntKind.i64 m, Value.bool fine, Value.slice A bs.length c, Value.string X, Value.tuple #[Value.string Y, Value.bool true], Value.string X, Value.tuple #[Value.string Y, Value.bool true], Value.string Y, Value.bool true, Value.tuple #[Value.string Y, Value.bool true], Value.string X, Value.tuple #[Value.string Y, Value.bool true], Value.string Y, Value.bool true, Value.string F, Value.string F, Value.bool false, Value.bool false, Value.bool true, Value.bool true, Value.bool false, Value.bool false, Value.bool false, Value.int IntKind.i64 m, Value.int IntKind.i64 m, Value.bool false, Value.bool false, Value.bool false, Value.bool fine, Value.bool fine, Value.bool false, Value.bool false, Value.bool false, Value.string Y, Value.string Y, Value.bool false, Value.bool false, Value.bool false, Value.bool true, Value.bool true, Value.bool false, Value.bool false, Value.tuple #[Value.int IntKind.i64 v, Value.bool true], Value.string F, Value.tuple #[Value.int IntKind.i64 v, Value.bool true], Value.int IntKind.i64 v, Value.bool true, Value.bool true, Value.bool true, Value.bool true, Value.bool false, Value.bool false, Value.int IntKind.i64 v, Value.int IntKind.i64 v, Value.bool false, Value.bool false, Value.bool false, Value.bool true, Value.bool false, undef, undef, Value.tuple #[Value.string X, Value.bool true], Value.string Y, Value.tuple #[Value.string X, Value.bool true], Value.string X, Value.bool true, Value.string Y, Value.slice (some ⟨w11.heap.size, 0, none⟩) (sealS x).length cap, Value.slice A bs.length c, Value.int IntKind.i64 q, Value.slice (some ⟨w11.heap.size, 0, none⟩) (sealS x).length cap, Value.int IntKind.i64 ((sealS x).length : Int), Value.int IntKind.i64 (k : Int), bsel (L 0) (.slice (some ⟨w11.heap.size, 0, none⟩) (sealS x).length cap) (undef), bsel (L 1) (.int .i64 (k : Int)) (undef), bsel (L 2) (.slice (some ⟨w11.heap.size, 0, none⟩) (sealS x).length cap) (undef), bsel (L 3) (.int .i64 (k : Int)) (undef), bsel (L 4) (.pointer (some ⟨w11.heap.size, k, none⟩)) (undef), bsel (L 5) (.int .u8 (a.toNat : Int)) (undef), bsel (L 6) (.slice A bs.length c) (undef), bsel (L 7) (.int .i64 y) (undef), bsel (L 8) (.int .i64 (y % 255)) (undef), bsel (L 9) (.int .i64 (1 + y % 255)) (undef), bsel (L 10) (.int .u8 (1 + y % 255)) (undef), bsel (L 11) (.int .u8 ((cx a y).toNat : Int)) (undef), bsel (L 12) (.pointer (some ⟨w11.heap.size, k, none⟩)) (undef), undef, undef, undef, undef, undef, undef, undef, undef, undef, undef, undef, undef, undef, undef, undef, undef], []⟩ ∧ (L 13 = true → L 7 = true) ∧ (L 13 = true → L 5 = true) ∧ (L 8 = true → L 7 = true) ∧ (L 9 = true → L 8 = true) ∧ (L 10 = true → L 9 = true) ∧ (L 11 = true → L 10 = true) ∧ YF w12 w11.heap.size k a y (L 7) (L 13) W) ?h0 ?step ?fin
        case h0 => exact ⟨0, rfl, fun h => absurd h Bool.false_ne_true, fun h => absurd h Bool.false_ne_true, fun h => absurd h Bool.false_ne_true, fun h => absurd h Bool.false_ne_true, fun h => absurd h Bool.false_ne_true, fun h => absurd h Bool.false_ne_true, YF.start⟩
        case step =>
          intro L act W q oo hJ hL ho hd K3 hK3
          obtain ⟨y, rfl, hI0, hI1, hI2, hI3, hI4, hI5, hF⟩ := hJ
          match q, ho with
          | 0, ho =>
            simp only [List.getElem?_toArray, List.getElem?_cons_zero, List.getElem?_cons_succ, Option.some.injEq] at ho
            subst ho
            simp [Region.binds] at hd
            try simp only [hd, bsel_t]
            have HF := Lib.hid hF
            clear hF
            have HQI0 := Lib.hid hI0
            clear hI0
            have HQI1 := Lib.hid hI1
            clear hI1
            have HQI2 := Lib.hid hI2
            clear hI2
            have HQI3 := Lib.hid hI3
            clear hI3
            have HQI4 := Lib.hid hI4
            clear hI4
            have HQI5 := Lib.hid hI5
            clear hI5
            go_simp
            exact hK3 _ _ ⟨y, by simp [upd, bsel, hd], by simpa [upd] using HQI0.out, by simpa [upd] using HQI1.out, by simpa [upd] using HQI2.out, by simpa [upd] using HQI3.out, by simpa [upd] using HQI4.out, by simpa [upd] using HQI5.out, HF.out⟩
          | 1, ho =>
            simp only [List.getElem?_toArray, List.getElem?_cons_zero, List.getElem?_cons_succ, Option.some.injEq] at ho
            subst ho
            simp [Region.binds] at hd
            try simp only [hd, bsel_t]
            have HF := Lib.hid hF
            clear hF
            have HQI0 := Lib.hid hI0
            clear hI0
            have HQI1 := Lib.hid hI1
            clear hI1
            have HQI2 := Lib.hid hI2
            clear hI2
            have HQI3 := Lib.hid hI3
            clear hI3
            have HQI4 := Lib.hid hI4
            clear hI4
            have HQI5 := Lib.hid hI5
            clear hI5
            go_simp
            exact hK3 _ _ ⟨y, by simp [upd, bsel, hd], by simpa [upd] using HQI0.out, by simpa [upd] using HQI1.out, by simpa [upd] using HQI2.out, by simpa [upd] using HQI3.out, by simpa [upd] using HQI4.out, by simpa [upd] using HQI5.out, HF.out⟩
          | 2, ho =>
            simp only [List.getElem?_toArray, List.getElem?_cons_zero, List.getElem?_cons_succ, Option.some.injEq] at ho
            subst ho
            simp [Region.binds] at hd
            try simp only [hd, bsel_t]
            have HF := Lib.hid hF
            clear hF
            have HQI0 := Lib.hid hI0
            clear hI0
            have HQI1 := Lib.hid hI1
            clear hI1
            have HQI2 := Lib.hid hI2
            clear hI2
            have HQI3 := Lib.hid hI3
            clear hI3
            have HQI4 := Lib.hid hI4
            clear hI4
            have HQI5 := Lib.hid hI5
            clear hI5
            go_simp
            exact hK3 _ _ ⟨y, by simp [upd, bsel, hd], by simpa [upd] using HQI0.out, by simpa [upd] using HQI1.out, by simpa [upd] using HQI2.out, by simpa [upd] using HQI3.out, by simpa [upd] using HQI4.out, by simpa [upd] using HQI5.out, HF.out⟩
          | 3, ho =>
            simp only [List.getElem?_toArray, List.getElem?_cons_zero, List.getElem?_cons_succ, Option.some.injEq] at ho
            subst ho
            simp [Region.binds] at hd
            try simp only [hd, bsel_t]
            have HF := Lib.hid hF
            clear hF
            have HQI0 := Lib.hid hI0
            clear hI0
            have HQI1 := Lib.hid hI1
            clear hI1
            have HQI2 := Lib.hid hI2
            clear hI2
            have HQI3 := Lib.hid hI3
            clear hI3
            have HQI4 := Lib.hid hI4
            clear hI4
            have HQI5 := Lib.hid hI5
            clear hI5
            go_simp
            exact hK3 _ _ ⟨y, by simp [upd, bsel, hd], by simpa [upd] using HQI0.out, by simpa [upd] using HQI1.out, by simpa [upd] using HQI2.out, by simpa [upd] using HQI3.out, by simpa [upd] using HQI4.out, by simpa [upd] using HQI5.out, HF.out⟩
          | 4, ho =>
            simp only [List.getElem?_toArray, List.getElem?_cons_zero, List.getElem?_cons_succ, Option.some.injEq] at ho
            subst ho
            simp [Region.binds] at hd
            try simp only [hd, bsel_t]
            have HF := Lib.hid hF
            clear hF
            have HQI0 := Lib.hid hI0
            clear hI0
            have HQI1 := Lib.hid hI1
            clear hI1
            have HQI2 := Lib.hid hI2
            clear hI2
            have HQI3 := Lib.hid hI3
            clear hI3
            have HQI4 := Lib.hid hI4
            clear hI4
            have HQI5 := Lib.hid hI5
            clear hI5
            go_simp
            exact hK3 _ _ ⟨y, by simp [upd, bsel, hd], by simpa [upd] using HQI0.out, by simpa [upd] using HQI1.out, by simpa [upd] using HQI2.out, by simpa [upd] using HQI3.out, by simpa [upd] using HQI4.out, by simpa [upd] using HQI5.out, HF.out⟩
          | 5, ho =>
            simp only [List.getElem?_toArray, List.getElem?_cons_zero, List.getElem?_cons_succ, Option.some.injEq] at ho
            subst ho
            simp [Region.binds] at hd
            have hz1 : L 13 = false := by
              cases e : L 13
              · rfl
              · exact absurd (hI1 e) (by simp [hL])
            obtain ⟨nn, hW⟩ := hF.lo hz1
            have s0 : W.cell? ⟨w11.heap.size, k, none⟩ = some (.int .u8 (a.toNat : Int)) := by rw [hW]; exact HKA.out
            clear hW
            try simp only [hd, bsel_t]
            have HF := Lib.hid hF
            clear hF
            have HQI0 := Lib.hid hI0
            clear hI0
            have HQI1 := Lib.hid hI1
            clear hI1
            have HQI2 := Lib.hid hI2
            clear hI2
            have HQI3 := Lib.hid hI3
            clear hI3
            have HQI4 := Lib.hid hI4
            clear hI4
            have HQI5 := Lib.hid hI5
            clear hI5
            go_simp
            exact hK3 _ _ ⟨y, by simp [upd, bsel, hd, hz1], by simpa [upd] using HQI0.out, by simp [upd], by simpa [upd] using HQI2.out, by simpa [upd] using HQI3.out, by simpa [upd] using HQI4.out, by simpa [upd] using HQI5.out, HF.out⟩
          | 6, ho =>
            simp only [List.getElem?_toArray, List.getElem?_cons_zero, List.getElem?_cons_succ, Option.some.injEq] at ho
            subst ho
            simp [Region.binds] at hd
            try simp only [hd, bsel_t]
            have HF := Lib.hid hF
            clear hF
            have HQI0 := Lib.hid hI0
            clear hI0
            have HQI1 := Lib.hid hI1
            clear hI1
            have HQI2 := Lib.hid hI2
            clear hI2
            have HQI3 := Lib.hid hI3
            clear hI3
            have HQI4 := Lib.hid hI4
            clear hI4
            have HQI5 := Lib.hid hI5
            clear hI5
            go_simp
            exact hK3 _ _ ⟨y, by simp [upd, bsel, hd], by simpa [upd] using HQI0.out, by simpa [upd] using HQI1.out, by simpa [upd] using HQI2.out, by simpa [upd] using HQI3.out, by simpa [upd] using HQI4.out, by simpa [upd] using HQI5.out, HF.out⟩
          | 7, ho =>
            simp only [List.getElem?_toArray, List.getElem?_cons_zero, List.getElem?_cons_succ, Option.some.injEq] at ho
            subst ho
            simp [Region.binds] at hd
            have hz0 : L 13 = false := by
              cases e : L 13
              · rfl
              · exact absurd (hI0 e) (by simp [hL])
            have hz2 : L 8 = false := by
              cases e : L 8
              · rfl
              · exact absurd (hI2 e) (by simp [hL])
            have y9 : L 9 = false := by
              cases e : L 9
              · rfl
              · exact absurd (hI3 e) (by simp [hz2])
            have y10 : L 10 = false := by
              cases e : L 10
              · rfl
              · exact absurd (hI4 e) (by simp [y9])
            have y11 : L 11 = false := by
              cases e : L 11
              · rfl
              · exact absurd (hI5 e) (by simp [y10])
            rw [hL] at hF
            simp only [hd, bsel_t]
            have HF := Lib.hid hF
            clear hF
            obtain ⟨nn, hW⟩ := HF.out.lo hz0
            have hb := below_drewN' HB12.out nn
            rw [← hW] at hb
            have HBW := Lib.hid hb
            clear hb hW
            have HQI0 := Lib.hid hI0
            clear hI0
            have HQI1 := Lib.hid hI1
            clear hI1
            have HQI2 := Lib.hid hI2
            clear hI2
            have HQI3 := Lib.hid hI3
            clear hI3
            have HQI4 := Lib.hid hI4
            clear hI4
            have HQI5 := Lib.hid hI5
            clear hI5
            go_simp
            go_at_call 15
            refine (vAt_any A bs c 10 W (HA.out.below HBW.out) HR.out (by omega) (by omega)).mono ?_
            rintro e W' ⟨y', rfl, hy0, hy1, rfl⟩
            have d13 : L 13 = false := hz0
            have HG := HF.out
            rw [d13] at HG
            have HF := Lib.hid (HG.draw hy0 hy1)
            clear HG
            go_simp
            exact hK3 _ _ ⟨y', by simp [upd, bsel, hd, hz0, hz2, y9, y10, y11], by simp [upd], by simpa [upd] using HQI1.out, by simp [upd], by simpa [upd] using HQI3.out, by simpa [upd] using HQI4.out, by simpa [upd] using HQI5.out, by simpa [upd, hd, d13] using HF.out⟩
          | 8, ho =>
            simp only [List.getElem?_toArray, List.getElem?_cons_zero, List.getElem?_cons_succ, Option.some.injEq] at ho
            subst ho
            simp [Region.binds] at hd
            have hz3 : L 9 = false := by
              cases e : L 9
              · rfl
              · exact absurd (hI3 e) (by simp [hL])
            have d7 : L 7 = true := by simp [hd]
            obtain ⟨y0, y1⟩ := hF.rng d7
            have hm : y.tmod 255 = y % 255 := Int.tmod_eq_emod_of_nonneg y0
            try simp only [hd, bsel_t]
            have HF := Lib.hid hF
            clear hF
            have HQI0 := Lib.hid hI0
            clear hI0
            have HQI1 := Lib.hid hI1
            clear hI1
            have HQI2 := Lib.hid hI2
            clear hI2
            have HQI3 := Lib.hid hI3
            clear hI3
            have HQI4 := Lib.hid hI4
            clear hI4
            have HQI5 := Lib.hid hI5
            clear hI5
            go_simp
            exact hK3 _ _ ⟨y, by simp [upd, bsel, hd, hz3], by simpa [upd] using HQI0.out, by simpa [upd] using HQI1.out, by simp [upd, hd], by simp [upd], by simpa [upd] using HQI4.out, by simpa [upd] using HQI5.out, HF.out⟩
          | 9, ho =>
            simp only [List.getElem?_toArray, List.getElem?_cons_zero, List.getElem?_cons_succ, Option.some.injEq] at ho
            subst ho
            simp [Region.binds] at hd
            have hz4 : L 10 = false := by
              cases e : L 10
              · rfl
              · exact absurd (hI4 e) (by simp [hL])
            have hw9 := IntWalk.i64_in (1 + y % 255) (by omega)
            try simp only [hd, bsel_t]
            have HF := Lib.hid hF
            clear hF
            have HQI0 := Lib.hid hI0
            clear hI0
            have HQI1 := Lib.hid hI1
            clear hI1
            have HQI2 := Lib.hid hI2
            clear hI2
            have HQI3 := Lib.hid hI3
            clear hI3
            have HQI4 := Lib.hid hI4
            clear hI4
            have HQI5 := Lib.hid hI5
            clear hI5
            go_simp
            exact hK3 _ _ ⟨y, by simp [upd, bsel, hd, hz4], by simpa [upd] using HQI0.out, by simpa [upd] using HQI1.out, by simpa [upd] using HQI2.out, by simp [upd, hd], by simp [upd], by simpa [upd] using HQI5.out, HF.out⟩
          | 10, ho =>
            simp only [List.getElem?_toArray, List.getElem?_cons_zero, List.getElem?_cons_succ, Option.some.injEq] at ho
            subst ho
            simp [Region.binds] at hd
            have hz5 : L 11 = false := by
              cases e : L 11
              · rfl
              · exact absurd (hI5 e) (by simp [hL])
            have hw9 := u8_in (z := 1 + y % 255) (by omega) (by omega)
            try simp only [hd, bsel_t]
            have HF := Lib.hid hF
            clear hF
            have HQI0 := Lib.hid hI0
            clear hI0
            have HQI1 := Lib.hid hI1
            clear hI1
            have HQI2 := Lib.hid hI2
            clear hI2
            have HQI3 := Lib.hid hI3
            clear hI3
            have HQI4 := Lib.hid hI4
            clear hI4
            have HQI5 := Lib.hid hI5
            clear hI5
            go_simp
            exact hK3 _ _ ⟨y, by simp [upd, bsel, hd, hz5], by simpa [upd] using HQI0.out, by simpa [upd] using HQI1.out, by simpa [upd] using HQI2.out, by simpa [upd] using HQI3.out, by simp [upd, hd], by simp [upd], HF.out⟩
          | 11, ho =>
            simp only [List.getElem?_toArray, List.getElem?_cons_zero, List.getElem?_cons_succ, Option.some.injEq] at ho
            subst ho
            simp [Region.binds] at hd
            have d10 : L 10 = true := by simp [hd]
            have d7 := hI2 (hI3 (hI4 d10))
            have hxb := (cx_bits a (hF.rng d7).1).1
            clear d7 d10
            try simp only [hd, bsel_t]
            have HF := Lib.hid hF
            clear hF
            have HQI0 := Lib.hid hI0
            clear hI0
            have HQI1 := Lib.hid hI1
            clear hI1
            have HQI2 := Lib.hid hI2
            clear hI2
            have HQI3 := Lib.hid hI3
            clear hI3
            have HQI4 := Lib.hid hI4
            clear hI4
            have HQI5 := Lib.hid hI5
            clear hI5
            go_simp
            exact hK3 _ _ ⟨y, by simp [upd, bsel, hd], by simpa [upd] using HQI0.out, by simpa [upd] using HQI1.out, by simpa [upd] using HQI2.out, by simpa [upd] using HQI3.out, by simpa [upd] using HQI4.out, by simp [upd, hd], HF.out⟩
          | 12, ho =>
            simp only [List.getElem?_toArray, List.getElem?_cons_zero, List.getElem?_cons_succ, Option.some.injEq] at ho
            subst ho
            simp [Region.binds] at hd
            try simp only [hd, bsel_t]
            have HF := Lib.hid hF
            clear hF
            have HQI0 := Lib.hid hI0
            clear hI0
            have HQI1 := Lib.hid hI1
            clear hI1
            have HQI2 := Lib.hid hI2
            clear hI2
            have HQI3 := Lib.hid hI3
            clear hI3
            have HQI4 := Lib.hid hI4
            clear hI4
            have HQI5 := Lib.hid hI5
            clear hI5
            go_simp
            exact hK3 _ _ ⟨y, by simp [upd, bsel, hd], by simpa [upd] using HQI0.out, by simpa [upd] using HQI1.out, by simpa [upd] using HQI2.out, by simpa [upd] using HQI3.out, by simpa [upd] using HQI4.out, by simpa [upd] using HQI5.out, HF.out⟩
          | 13, ho =>
            simp only [List.getElem?_toArray, List.getElem?_cons_zero, List.getElem?_cons_succ, Option.some.injEq] at ho
            subst ho
            simp [Region.binds] at hd
            have d11 : L 11 = true := by simp [hd]
            have d7 := hI2 (hI3 (hI4 (hI5 d11)))
            rw [hL, d7] at hF
            obtain ⟨nn, hW⟩ := hF.lo rfl
            have s0 : W.cell? ⟨w11.heap.size, k, none⟩ = some (.int .u8 (a.toNat : Int)) := by rw [hW]; exact HKA.out
            have f0 : W.frozen? ⟨w11.heap.size, k, none⟩ = false := by rw [hW]; exact HFZ.out
            have HF := Lib.hid hF.store
            clear hF hW
            have D7 := Lib.hid d7
            clear d7 d11
            try simp only [hd, bsel_t]
            have HQI0 := Lib.hid hI0
            clear hI0
            have HQI1 := Lib.hid hI1
            clear hI1
            have HQI2 := Lib.hid hI2
            clear hI2
            have HQI3 := Lib.hid hI3
            clear hI3
            have HQI4 := Lib.hid hI4
            clear hI4
            have HQI5 := Lib.hid hI5
            clear hI5
            go_simp
            exact hK3 _ _ ⟨y, by simp [upd, bsel, hd], by simp [upd, D7.out], by simp [upd, hd], by simpa [upd] using HQI2.out, by simpa [upd] using HQI3.out, by simpa [upd] using HQI4.out, by simpa [upd] using HQI5.out, by simpa [upd, hd, D7.out] using HF.out⟩
          | q + 14, ho => simp at ho
        case fin =>
          intro L act W hJ hfin
          obtain ⟨y, rfl, hI0, hI1, hI2, hI3, hI4, hI5, hF⟩ := hJ
          have l0 : L 0 = true := by
            cases e : L 0
            · have x := hfin 0 _ rfl e
              simp [Region.binds] at x
            · rfl
          have l1 : L 1 = true := by
            cases e : L 1
            · have x := hfin 1 _ rfl e
              simp [Region.binds, l0] at x
            · rfl
          have l2 : L 2 = true := by
            cases e : L 2
            · have x := hfin 2 _ rfl e
              simp [Region.binds, l0, l1] at x
            · rfl
          have l3 : L 3 = true := by
            cases e : L 3
            · have x := hfin 3 _ rfl e
              simp [Region.binds, l0, l1, l2] at x
            · rfl
          have l4 : L 4 = true := by
            cases e : L 4
            · have x := hfin 4 _ rfl e
              simp [Region.binds, l0, l1, l2, l3] at x
            · rfl
          have l5 : L 5 = true := by
            cases e : L 5
            · have x := hfin 5 _ rfl e
              simp [Region.binds, l0, l1, l2, l3, l4] at x
            · rfl
          have l6 : L 6 = true := by
            cases e : L 6
            · have x := hfin 6 _ rfl e
              simp [Region.binds, l0, l1, l2, l3, l4, l5] at x
            · rfl
          have l7 : L 7 = true := by
            cases e : L 7
            · have x := hfin 7 _ rfl e
              simp [Region.binds, l0, l1, l2, l3, l4, l5, l6] at x
            · rfl
          have l8 : L 8 = true := by
            cases e : L 8
            · have x := hfin 8 _ rfl e
              simp [Region.binds, l0, l1, l2, l3, l4, l5, l6, l7] at x
            · rfl
          have l9 : L 9 = true := by
            cases e : L 9
            · have x := hfin 9 _ rfl e
              simp [Region.binds, l0, l1, l2, l3, l4, l5, l6, l7, l8] at x
            · rfl
          have l10 : L 10 = true := by
            cases e : L 10
            · have x := hfin 10 _ rfl e
              simp [Region.binds, l0, l1, l2, l3, l4, l5, l6, l7, l8, l9] at x
            · rfl
          have l11 : L 11 = true := by
            cases e : L 11
            · have x := hfin 11 _ rfl e
              simp [Region.binds, l0, l1, l2, l3, l4, l5, l6, l7, l8, l9, l10] at x
            · rfl
          have l12 : L 12 = true := by
            cases e : L 12
            · have x := hfin 12 _ rfl e
              simp [Region.binds, l0, l1, l2, l3, l4, l5, l6, l7, l8, l9, l10, l11] at x
            · rfl
          have l13 : L 13 = true := by
            cases e : L 13
            · have x := hfin 13 _ rfl e
              simp [Region.binds, l0, l1, l2, l3, l4, l5, l6, l7, l8, l9, l10, l11, l12] at x
            · rfl
          simp only [l0, l1, l2, l3, l4, l5, l6, l7, l8, l9, l10, l11, l12, l13, bsel_t]
          have hr9 := hF.rng l7
          obtain ⟨nn, hW⟩ := hF.hi l13
          clear hF hfin
          have hxo := (cx_bits a hr9.1).2
          have hka : (sealS x)[k]? = some a := by
            have := HGA.out
            simp only [List.getD, List.getElem?_eq_getElem hkl, Option.getD_some] at this
            rw [List.getElem?_eq_getElem hkl, this]
          have hov := okV_changed HS.out hka hxo
          have hln : ((sealS x).set k (cx a y)).length = (sealS x).length := List.length_set
          have hcells : ∀ j (hj : j < ((sealS x).set k (cx a y)).length), W.cell? ((⟨w11.heap.size, 0, none⟩ : Addr).add j) = some (.int .u8 ((((sealS x).set k (cx a y))[j]).toNat : Int)) := by
            intro j hj
            have hj' : j < (sealS x).length := by rw [hln] at hj; exact hj
            have e0 : (⟨w11.heap.size, 0, none⟩ : Addr).add j = ⟨w11.heap.size, j, none⟩ := by simp [Addr.add, eq_comm]
            rw [hW, e0]
            by_cases e : j = k
            · subst e
              rw [List.getElem_set_self]
              exact World.cell?_setCell_same w12 _ _ HKA.out
            · have h0 := HCE.out j (by rw [hYs]; exact hj')
              rw [HBA.out] at h0
              have h1 : (sealS x).getD j 0 = (sealS x)[j] := by simp [List.getD, List.getElem?_eq_getElem hj']
              rw [h1] at h0
              rw [List.getElem_set_ne (Ne.symm e)]
              exact (World.cell?_setCell_other _ _ _ _ (by intro e2; simp only [Addr.mk.injEq, true_and, and_true] at e2; omega)).trans h0
          have hcv2 := run_convert_bytes_back (P := Tryd.prog) W 22 9 5 ⟨w11.heap.size, 0, none⟩ cap ((sealS x).set k (cx a y)) Tryd.underlying22 Tryd.underlying5 Tryd.underlying9 hcells
          rw [hln] at hcv2
          have hb13 : Below w.heap.size w W := by
            rw [hW]
            exact below_drewN' (HB12.out.setCell hgb _) nn
          have hvf := verify_any ((sealS x).set k (cx a y)) W (HW.out.below hb13) (by rw [hln]; have := seal_len x; omega)
          rw [hov] at hvf
          have HVZ := Lib.hid hvf
          have HB13 := Lib.hid hb13
          clear hvf hov hcells hW hb13 hxo hka
          change (convert 22 9 (.slice (some ⟨w11.heap.size, 0, none⟩) (sealS x).length cap)).run Tryd.prog W = .ok (.string (ba ((sealS x).set k (cx a y)))) W at hcv2
          generalize ba ((sealS x).set k (cx a y)) = Z at *
          go_wp2_with fail
          refine HVZ.out.mono ?_
          rintro e w13 ⟨rfl, hb⟩
          have HB14 := Lib.hid (HB13.out.trans (hb.mono HB13.out.size))
          clear hb
          go_wp2_with fail
          go_ret
          exact ⟨rfl, HB14.out⟩
      · refine wp_region_inv (by kernel_rfl) (fun L act W => ∃ (y : Int), act = ⟨#[Value.slice A bs.length c, undef, Value.bool false, Value.int IntKind.i64 n, Value.string F, Value.bool false, Value.string F, Value.bool false, Value.string (ba t), Value.int IntKind.i64 m, Value.bool fine, Value.int IntKind.i64 m, Value.bool fine, Value.string X, Value.string Y, Value.bool true, Value.string Y, Value.bool true, Value.int IntKind.i64 v, Value.bool ok', Value.string X, Value.bool true, Value.slice (some ⟨w11.heap.size, 0, none⟩) (sealS x).length cap, Value.int IntKind.i64 (k : Int), undef, undef, Value.slice A bs.length c, Value.bool false, Value.slice A bs.length c, Value.int IntKind.i64 n, Value.tuple #[Value.string F, Value.bool false], Value.int IntKind.i64 n, Value.tuple #[Value.string F, Value.bool false], Value.string F, Value.bool false, Value.tuple #[Value.string F, Value.bool false], Value.int IntKind.i64 n, Value.tuple #[Value.string F, Value.bool false], Value.string F, Value.bool false, Value.slice A bs.length c, Value.string (ba t), Value.tuple #[Value.int IntKind.i64 m, Value.bool fine], Value.string (ba t), Value.tuple #[Value.int IntKind.i64 m, Value.bool fine], Value.int IntKind.i64 m, Value.bool fine, Value.tuple #[Value.int IntKind.i64 m, Value.bool fine], Value.string (ba t), Value.tuple #[Value.int IntKind.i64 m, Value.bool fine], Value.int IntKind.i64 m, Value.bool fine, Value.slice A bs.length c, Value.string X, Value.tuple #[Value.string Y, Value.bool true], Value.string X, Value.tuple #[Value.string Y, Value.bool true], Value.string Y, Value.bool true, Value.tuple #[Value.string Y, Value.bool true], Value.string X, Value.tuple #[Value.string Y, Value.bool true], Value.string Y, Value.bool true, Value.string F, Value.string F, Value.bool false, Value.bool false, Value.bool false, Value.bool false, Value.bool false, Value.bool false, Value.bool false, Value.int IntKind.i64 m, Value.int IntKind.i64 m, Value.bool false, Value.bool false, Value.bool false, Value.bool fine, Value.bool fine, Value.bool false, Value.bool false, Value.bool false, Value.string Y, Value.string Y, Value.bool false, Value.bool false, Value.bool false, Value.bool true, Value.bool true, Value.bool false, Value.bool false, Value.tuple #[Value.int IntKind.i64 v, Value.bool ok'], Value.string F, Value.tuple #[Value.int IntKind.i64 v, Value.bool ok'], Value.int IntKind.i64 v, Value.bool ok', Value.bool false, Value.bool false, undef, undef, undef, undef, undef, undef, undef, Value.bool false, Value.bool true, Value.bool false, undef, undef, Value.tuple #[Value.string X, Value.bool true], Value.string Y, Value.tuple #[Value.string X, Value.bool true], Value.string X, Value.bool true, Value.string Y, Value.slice (some ⟨w11.heap.size, 0, none⟩) (sealS x).length cap, Value.slice A bs.length c, Value.int IntKind.i64 q, Value.slice (some ⟨w11.heap.size, 0, none⟩) (sealS x).length cap, Value.int IntKind.i64 ((sealS x).length : Int), Value.int IntKind.i64 (k : Int), bsel (L 0) (.slice (some ⟨w11.heap.size, 0, none⟩) (sealS x).length cap) (undef), bsel (L 1) (.int .i64 (k : Int)) (undef), bsel (L 2) (.slice (some ⟨w11.heap.size, 0, none⟩) (sealS x).length cap) (undef), bsel (L 3) (.int .i64 (k : Int)) (undef), bsel (L 4) (.pointer (some ⟨w11.heap.size, k, none⟩)) (undef), bsel (L 5) (.int .u8 (a.toNat : Int)) (undef), bsel (L 6) (.slice A bs.length c) (undef), bsel (L 7) (.int .i64 y) (undef), bsel (L 8) (.int .i64 (y % 255)) (undef), bsel (L 9) (.int .i64 (1 + y % 255)) (undef), bsel (L 10) (.int .u8 (1 + y % 255)) (undef), bsel (L 11) (.int .u8 ((cx a y).toNat : Int)) (undef), bsel (L 12) (.pointer (some ⟨w11.heap.size, k, none⟩)) (undef), undef, undef, undef, undef, undef, undef, undef, undef, undef, undef, undef, undef, undef, undef, undef, undef], []⟩ ∧ (L 13 = true → L 7 = true) ∧ (L 13 = true → L 5 = true) ∧ (L 8 = true → L 7 = true) ∧ (L 9 = true → L 8 = true) ∧ (L 10 = true → L 9 = true) ∧ (L 11 = true → L 10 = true) ∧ YF w12 w11.heap.size k a y (L 7) (L 13) W) ?h0 ?step ?fin
        case h0 => exact ⟨0, rfl, fun h => absurd h Bool.false_ne_true, fun h => absurd h Bool.false_ne_true, fun h => absurd h Bool.false_ne_true, fun h => absurd h Bool.false_ne_true, fun h => absurd h Bool.false_ne_true, fun h => absurd h Bool.false_ne_true, YF.start⟩
        case step =>
          intro L act W q oo hJ hL ho hd K3 hK3
          obtain ⟨y, rfl, hI0, hI1, hI2, hI3, hI4, hI5, hF⟩ := hJ
          match q, ho with
          | 0, ho =>
            simp only [List.getElem?_toArray, List.getElem?_cons_zero, List.getElem?_cons_succ, Option.some.injEq] at ho
            subst ho
            simp [Region.binds] at hd
            try simp only [hd, bsel_t]
            have HF := Lib.hid hF
            clear hF
            have HQI0 := Lib.hid hI0
            clear hI0
            have HQI1 := Lib.hid hI1
            clear hI1
            have HQI2 := Lib.hid hI2
            clear hI2
            have HQI3 := Lib.hid hI3
            clear hI3
            have HQI4 := Lib.hid hI4
            clear hI4
            have HQI5 := Lib.hid hI5
            clear hI5
            go_simp
            exact hK3 _ _ ⟨y, by simp [upd, bsel, hd], by simpa [upd] using HQI0.out, by simpa [upd] using HQI1.out, by simpa [upd] using HQI2.out, by simpa [upd] using HQI3.out, by simpa [upd] using HQI4.out, by simpa [upd] using HQI5.out, HF.out⟩
          | 1, ho =>
            simp only [List.getElem?_toArray, List.getElem?_cons_zero, List.getElem?_cons_succ, Option.some.injEq] at ho
            subst ho
            simp [Region.binds] at hd
            try simp only [hd, bsel_t]
            have HF := Lib.hid hF
            clear hF
            have HQI0 := Lib.hid hI0
            clear hI0
            have HQI1 := Lib.hid hI1
            clear hI1
            have HQI2 := Lib.hid hI2
            clear hI2
            have HQI3 := Lib.hid hI3
            clear hI3
            have HQI4 := Lib.hid hI4
            clear hI4
            have HQI5 := Lib.hid hI5
            clear hI5
            go_simp
            exact hK3 _ _ ⟨y, by simp [upd, bsel, hd], by simpa [upd] using HQI0.out, by simpa [upd] using HQI1.out, by simpa [upd] using HQI2.out, by simpa [upd] using HQI3.out, by simpa [upd] using HQI4.out, by simpa [upd] using HQI5.out, HF.out⟩
          | 2, ho =>
            simp only [List.getElem?_toArray, List.getElem?_cons_zero, List.getElem?_cons_succ, Option.some.injEq] at ho
            subst ho
            simp [Region.binds] at hd
            try simp only [hd, bsel_t]
            have HF := Lib.hid hF
            clear hF
            have HQI0 := Lib.hid hI0
            clear hI0
            have HQI1 := Lib.hid hI1
            clear hI1
            have HQI2 := Lib.hid hI2
            clear hI2
            have HQI3 := Lib.hid hI3
            clear hI3
            have HQI4 := Lib.hid hI4
            clear hI4
            have HQI5 := Lib.hid hI5
            clear hI5
            go_simp
            exact hK3 _ _ ⟨y, by simp [upd, bsel, hd], by simpa [upd] using HQI0.out, by simpa [upd] using HQI1.out, by simpa [upd] using HQI2.out, by simpa [upd] using HQI3.out, by simpa [upd] using HQI4.out, by simpa [upd] using HQI5.out, HF.out⟩
          | 3, ho =>
            simp only [List.getElem?_toArray, List.getElem?_cons_zero, List.getElem?_cons_succ, Option.some.injEq] at ho
            subst ho
            simp [Region.binds] at hd
            try simp only [hd, bsel_t]
            have HF := Lib.hid hF
            clear hF
            have HQI0 := Lib.hid hI0
            clear hI0
            have HQI1 := Lib.hid hI1
            clear hI1
            have HQI2 := Lib.hid hI2
            clear hI2
            have HQI3 := Lib.hid hI3
            clear hI3
            have HQI4 := Lib.hid hI4
            clear hI4
            have HQI5 := Lib.hid hI5
            clear hI5
            go_simp
            exact hK3 _ _ ⟨y, by simp [upd, bsel, hd], by simpa [upd] using HQI0.out, by simpa [upd] using HQI1.out, by simpa [upd] using HQI2.out, by simpa [upd] using HQI3.out, by simpa [upd] using HQI4.out, by simpa [upd] using HQI5.out, HF.out⟩
          | 4, ho =>
            simp only [List.getElem?_toArray, List.getElem?_cons_zero, List.getElem?_cons_succ, Option.some.injEq] at ho
            subst ho
            simp [Region.binds] at hd
            try simp only [hd, bsel_t]
            have HF := Lib.hid hF
            clear hF
            have HQI0 := Lib.hid hI0
            clear hI0
            have HQI1 := Lib.hid hI1
            clear hI1
            have HQI2 := Lib.hid hI2
            clear hI2
            have HQI3 := Lib.hid hI3
            clear hI3
            have HQI4 := Lib.hid hI4
            clear hI4
            have HQI5 := Lib.hid hI5
            clear hI5
            go_simp
            exact hK3 _ _ ⟨y, by simp [upd, bsel, hd], by simpa [upd] using HQI0.out, by simpa [upd] using HQI1.out, by simpa [upd] using HQI2.out, by simpa [upd] using HQI3.out, by simpa [upd] using HQI4.out, by simpa [upd] using HQI5.out, HF.out⟩
          | 5, ho =>
            simp only [List.getElem?_toArray, List.getElem?_cons_zero, List.getElem?_cons_succ, Option.some.injEq] at ho
            subst ho
            simp [Region.binds] at hd
            have hz1 : L 13 = false := by
              cases e : L 13
              · rfl
              · exact absurd (hI1 e) (by simp [hL])
            obtain ⟨nn, hW⟩ := hF.lo hz1
            have s0 : W.cell? ⟨w11.heap.size, k, none⟩ = some (.int .u8 (a.toNat : Int)) := by rw [hW]; exact HKA.out
            clear hW
            try simp only [hd, bsel_t]
            have HF := Lib.hid hF
            clear hF
            have HQI0 := Lib.hid hI0
            clear hI0
            have HQI1 := Lib.hid hI1
            clear hI1
            have HQI2 := Lib.hid hI2
            clear hI2
            have HQI3 := Lib.hid hI3
            clear hI3
            have HQI4 := Lib.hid hI4
            clear hI4
            have HQI5 := Lib.hid hI5
            clear hI5
            go_simp
            exact hK3 _ _ ⟨y, by simp [upd, bsel, hd, hz1], by simpa [upd] using HQI0.out, by simp [upd], by simpa [upd] using HQI2.out, by simpa [upd] using HQI3.out, by simpa [upd] using HQI4.out, by simpa [upd] using HQI5.out, HF.out⟩
          | 6, ho =>
            simp only [List.getElem?_toArray, List.getElem?_cons_zero, List.getElem?_cons_succ, Option.some.injEq] at ho
            subst ho
            simp [Region.binds] at hd
            try simp only [hd, bsel_t]
            have HF := Lib.hid hF
            clear hF
            have HQI0 := Lib.hid hI0
            clear hI0
            have HQI1 := Lib.hid hI1
            clear hI1
            have HQI2 := Lib.hid hI2
            clear hI2
            have HQI3 := Lib.hid hI3
            clear hI3
            have HQI4 := Lib.hid hI4
            clear hI4
            have HQI5 := Lib.hid hI5
            clear hI5
            go_simp
            exact hK3 _ _ ⟨y, by simp [upd, bsel, hd], by simpa [upd] using HQI0.out, by simpa [upd] using HQI1.out, by simpa [upd] using HQI2.out, by simpa [upd] using HQI3.out, by simpa [upd] using HQI4.out, by simpa [upd] using HQI5.out, HF.out⟩
          | 7, ho =>
            simp only [List.getElem?_toArray, List.getElem?_cons_zero, List.getElem?_cons_succ, Option.some.injEq] at ho
            subst ho
            simp [Region.binds] at hd
            have hz0 : L 13 = false := by
              cases e : L 13
              · rfl
              · exact absurd (hI0 e) (by simp [hL])
            have hz2 : L 8 = false := by
              cases e : L 8
              · rfl
              · exact absurd (hI2 e) (by simp [hL])
            have y9 : L 9 = false := by
              cases e : L 9
              · rfl
              · exact absurd (hI3 e) (by simp [hz2])
            have y10 : L 10 = false := by
              cases e : L 10
              · rfl
              · exact absurd (hI4 e) (by simp [y9])
            have y11 : L 11 = false := by
              cases e : L 11
              · rfl
              · exact absurd (hI5 e) (by simp [y10])
            rw [hL] at hF
            simp only [hd, bsel_t]
            have HF := Lib.hid hF
            clear hF
            obtain ⟨nn, hW⟩ := HF.out.lo hz0
            have hb := below_drewN' HB12.out nn
            rw [← hW] at hb
            have HBW := Lib.hid hb
            clear hb hW
            have HQI0 := Lib.hid hI0
            clear hI0
            have HQI1 := Lib.hid hI1
            clear hI1
            have HQI2 := Lib.hid hI2
            clear hI2
            have HQI3 := Lib.hid hI3
            clear hI3
            have HQI4 := Lib.hid hI4
            clear hI4
            have HQI5 := Lib.hid hI5
            clear hI5
            go_simp
            go_at_call 15
            refine (vAt_any A bs c 10 W (HA.out.below HBW.out) HR.out (by omega) (by omega)).mono ?_
            rintro e W' ⟨y', rfl, hy0, hy1, rfl⟩
            have d13 : L 13 = false := hz0
            have HG := HF.out
            rw [d13] at HG
            have HF := Lib.hid (HG.draw hy0 hy1)
            clear HG
            go_simp
            exact hK3 _ _ ⟨y', by simp [upd, bsel, hd, hz0, hz2, y9, y10, y11], by simp [upd], by simpa [upd] using HQI1.out, by simp [upd], by simpa [upd] using HQI3.out, by simpa [upd] using HQI4.out, by simpa [upd] using HQI5.out, by simpa [upd, hd, d13] using HF.out⟩
          | 8, ho =>
            simp only [List.getElem?_toArray, List.getElem?_cons_zero, List.getElem?_cons_succ, Option.some.injEq] at ho
            subst ho
            simp [Region.binds] at hd
            have hz3 : L 9 = false := by
              cases e : L 9
              · rfl
              · exact absurd (hI3 e) (by simp [hL])
            have d7 : L 7 = true := by simp [hd]
            obtain ⟨y0, y1⟩ := hF.rng d7
            have hm : y.tmod 255 = y % 255 := Int.tmod_eq_emod_of_nonneg y0
            try simp only [hd, bsel_t]
            have HF := Lib.hid hF
            clear hF
            have HQI0 := Lib.hid hI0
            clear hI0
            have HQI1 := Lib.hid hI1
            clear hI1
            have HQI2 := Lib.hid hI2
            clear hI2
            have HQI3 := Lib.hid hI3
            clear hI3
            have HQI4 := Lib.hid hI4
            clear hI4
            have HQI5 := Lib.hid hI5
            clear hI5
            go_simp
            exact hK3 _ _ ⟨y, by simp [upd, bsel, hd, hz3], by simpa [upd] using HQI0.out, by simpa [upd] using HQI1.out, by simp [upd, hd], by simp [upd], by simpa [upd] using HQI4.out, by simpa [upd] using HQI5.out, HF.out⟩
          | 9, ho =>
            simp only [List.getElem?_toArray, List.getElem?_cons_zero, List.getElem?_cons_succ, Option.some.injEq] at ho
            subst ho
            simp [Region.binds] at hd
            have hz4 : L 10 = false := by
              cases e : L 10
              · rfl
              · exact absurd (hI4 e) (by simp [hL])
            have hw9 := IntWalk.i64_in (1 + y % 255) (by omega)
            try simp only [hd, bsel_t]
            have HF := Lib.hid hF
            clear hF
            have HQI0 := Lib.hid hI0
            clear hI0
            have HQI1 := Lib.hid hI1
            clear hI1
            have HQI2 := Lib.hid hI2
            clear hI2
            have HQI3 := Lib.hid hI3
            clear hI3
            have HQI4 := Lib.hid hI4
            clear hI4
            have HQI5 := Lib.hid hI5
            clear hI5
            go_simp
            exact hK3 _ _ ⟨y, by simp [upd, bsel, hd, hz4], by simpa [upd] using HQI0.out, by simpa [upd] using HQI1.out, by simpa [upd] using HQI2.out, by simp [upd, hd], by simp [upd], by simpa [upd] using HQI5.out, HF.out⟩
          | 10, ho =>
            simp only [List.getElem?_toArray, List.getElem?_cons_zero, List.getElem?_cons_succ, Option.some.injEq] at ho
            subst ho
            simp [Region.binds] at hd
            have hz5 : L 11 = false := by
              cases e : L 11
              · rfl
              · exact absurd (hI5 e) (by simp [hL])
            have hw9 := u8_in (z := 1 + y % 255) (by omega) (by omega)
            try simp only [hd, bsel_t]
            have HF := Lib.hid hF
            clear hF
            have HQI0 := Lib.hid hI0
            clear hI0
            have HQI1 := Lib.hid hI1
            clear hI1
            have HQI2 := Lib.hid hI2
            clear hI2
            have HQI3 := Lib.hid hI3
            clear hI3
            have HQI4 := Lib.hid hI4
            clear hI4
            have HQI5 := Lib.hid hI5
            clear hI5
            go_simp
            exact hK3 _ _ ⟨y, by simp [upd, bsel, hd, hz5], by simpa [upd] using HQI0.out, by simpa [upd] using HQI1.out, by simpa [upd] using HQI2.out, by simpa [upd] using HQI3.out, by simp [upd, hd], by simp [upd], HF.out⟩
          | 11, ho =>
            simp only [List.getElem?_toArray, List.getElem?_cons_zero, List.getElem?_cons_succ, Option.some.injEq] at ho
            subst ho
            simp [Region.binds] at hd
            have d10 : L 10 = true := by simp [hd]
            have d7 := hI2 (hI3 (hI4 d10))
            have hxb := (cx_bits a (hF.rng d7).1).1
            clear d7 d10
            try simp only [hd, bsel_t]
            have HF := Lib.hid hF
            clear hF
            have HQI0 := Lib.hid hI0
            clear hI0
            have HQI1 := Lib.hid hI1
            clear hI1
            have HQI2 := Lib.hid hI2
            clear hI2
            have HQI3 := Lib.hid hI3
            clear hI3
            have HQI4 := Lib.hid hI4
            clear hI4
            have HQI5 := Lib.hid hI5
            clear hI5
            go_simp
            exact hK3 _ _ ⟨y, by simp [upd, bsel, hd], by simpa [upd] using HQI0.out, by simpa [upd] using HQI1.out, by simpa [upd] using HQI2.out, by simpa [upd] using HQI3.out, by simpa [upd] using HQI4.out, by simp [upd, hd], HF.out⟩
          | 12, ho =>
            simp only [List.getElem?_toArray, List.getElem?_cons_zero, List.getElem?_cons_succ, Option.some.injEq] at ho
            subst ho
            simp [Region.binds] at hd
            try simp only [hd, bsel_t]
            have HF := Lib.hid hF
            clear hF
            have HQI0 := Lib.hid hI0
            clear hI0
            have HQI1 := Lib.hid hI1
            clear hI1
            have HQI2 := Lib.hid hI2
            clear hI2
            have HQI3 := Lib.hid hI3
            clear hI3
            have HQI4 := Lib.hid hI4
            clear hI4
            have HQI5 := Lib.hid hI5
            clear hI5
            go_simp
            exact hK3 _ _ ⟨y, by simp [upd, bsel, hd], by simpa [upd] using HQI0.out, by simpa [upd] using HQI1.out, by simpa [upd] using HQI2.out, by simpa [upd] using HQI3.out, by simpa [upd] using HQI4.out, by simpa [upd] using HQI5.out, HF.out⟩
          | 13, ho =>
            simp only [List.getElem?_toArray, List.getElem?_cons_zero, List.getElem?_cons_succ, Option.some.injEq] at ho
            subst ho
            simp [Region.binds] at hd
            have d11 : L 11 = true := by simp [hd]
            have d7 := hI2 (hI3 (hI4 (hI5 d11)))
            rw [hL, d7] at hF
            obtain ⟨nn, hW⟩ := hF.lo rfl
            have s0 : W.cell? ⟨w11.heap.size, k, none⟩ = some (.int .u8 (a.toNat : Int)) := by rw [hW]; exact HKA.out
            have f0 : W.frozen? ⟨w11.heap.size, k, none⟩ = false := by rw [hW]; exact HFZ.out
            have HF := Lib.hid hF.store
            clear hF hW
            have D7 := Lib.hid d7
            clear d7 d11
            try simp only [hd, bsel_t]
            have HQI0 := Lib.hid hI0
            clear hI0
            have HQI1 := Lib.hid hI1
            clear hI1
            have HQI2 := Lib.hid hI2
            clear hI2
            have HQI3 := Lib.hid hI3
            clear hI3
            have HQI4 := Lib.hid hI4
            clear hI4
            have HQI5 := Lib.hid hI5
            clear hI5
            go_simp
            exact hK3 _ _ ⟨y, by simp [upd, bsel, hd], by simp [upd, D7.out], by simp [upd, hd], by simpa [upd] using HQI2.out, by simpa [upd] using HQI3.out, by simpa [upd] using HQI4.out, by simpa [upd] using HQI5.out, by simpa [upd, hd, D7.out] using HF.out⟩
          | q + 14, ho => simp at ho
        case fin =>
          intro L act W hJ hfin
          obtain ⟨y, rfl, hI0, hI1, hI2, hI3, hI4, hI5, hF⟩ := hJ
          have l0 : L 0 = true := by
            cases e : L 0
            · have x := hfin 0 _ rfl e
              simp [Region.binds] at x
            · rfl
          have l1 : L 1 = true := by
            cases e : L 1
            · have x := hfin 1 _ rfl e
              simp [Region.binds, l0] at x
            · rfl
          have l2 : L 2 = true := by
            cases e : L 2
            · have x := hfin 2 _ rfl e
              simp [Region.binds, l0, l1] at x
            · rfl
          have l3 : L 3 = true := by
            cases e : L 3
            · have x := hfin 3 _ rfl e
              simp [Region.binds, l0, l1, l2] at x
            · rfl
          have l4 : L 4 = true := by
            cases e : L 4
            · have x := hfin 4 _ rfl e
              simp [Region.binds, l0, l1, l2, l3] at x
            · rfl
          have l5 : L 5 = true := by
            cases e : L 5
            · have x := hfin 5 _ rfl e
              simp [Region.binds, l0, l1, l2, l3, l4] at x
            · rfl
          have l6 : L 6 = true := by
            cases e : L 6
            · have x := hfin 6 _ rfl e
              simp [Region.binds, l0, l1, l2, l3, l4, l5] at x
            · rfl
          have l7 : L 7 = true := by
            cases e : L 7
            · have x := hfin 7 _ rfl e
              simp [Region.binds, l0, l1, l2, l3, l4, l5, l6] at x
            · rfl
          have l8 : L 8 = true := by
            cases e : L 8
            · have x := hfin 8 _ rfl e
              simp [Region.binds, l0, l1, l2, l3, l4, l5, l6, l7] at x
            · rfl
          have l9 : L 9 = true := by
            cases e : L 9
            · have x := hfin 9 _ rfl e
              simp [Region.binds, l0, l1, l2, l3, l4, l5, l6, l7, l8] at x
            · rfl
          have l10 : L 10 = true := by
            cases e : L 10
            · have x := hfin 10 _ rfl e
              simp [Region.binds, l0, l1, l2, l3, l4, l5, l6, l7, l8, l9] at x
            · rfl
          have l11 : L 11 = true := by
            cases e : L 11
            · have x := hfin 11 _ rfl e
              simp [Region.binds, l0, l1, l2, l3, l4, l5, l6, l7, l8, l9, l10] at x
            · rfl
          have l12 : L 12 = true := by
            cases e : L 12
            · have x := hfin 12 _ rfl e
              simp [Region.binds, l0, l1, l2, l3, l4, l5, l6, l7, l8, l9, l10, l11] at x
            · rfl
          have l13 : L 13 = true := by
            cases e : L 13
            · have x := hfin 13 _ rfl e
              simp [Region.binds, l0, l1, l2, l3, l4, l5, l6, l7, l8, l9, l10, l11, l12] at x
            · rfl
          simp only [l0, l1, l2, l3, l4, l5, l6, l7, l8, l9, l10, l11, l12, l13, bsel_t]
          have hr9 := hF.rng l7
          obtain ⟨nn, hW⟩ := hF.hi l13
          clear hF hfin
          have hxo := (cx_bits a hr9.1).2
          have hka : (sealS x)[k]? = some a := by
            have := HGA.out
            simp only [List.getD, List.getElem?_eq_getElem hkl, Option.getD_some] at this
            rw [List.getElem?_eq_getElem hkl, this]
          have hov := okV_changed HS.out hka hxo
          have hln : ((sealS x).set k (cx a y)).length = (sealS x).length := List.length_set
          have hcells : ∀ j (hj : j < ((sealS x).set k (cx a y)).length), W.cell? ((⟨w11.heap.size, 0, none⟩ : Addr).add j) = some (.int .u8 ((((sealS x).set k (cx a y))[j]).toNat : Int)) := by
            intro j hj
            have hj' : j < (sealS x).length := by rw [hln] at hj; exact hj
            have e0 : (⟨w11.heap.size, 0, none⟩ : Addr).add j = ⟨w11.heap.size, j, none⟩ := by simp [Addr.add, eq_comm]
            rw [hW, e0]
            by_cases e : j = k
            · subst e
              rw [List.getElem_set_self]
              exact World.cell?_setCell_same w12 _ _ HKA.out
            · have h0 := HCE.out j (by rw [hYs]; exact hj')
              rw [HBA.out] at h0
              have h1 : (sealS x).getD j 0 = (sealS x)[j] := by simp [List.getD, List.getElem?_eq_getElem hj']
              rw [h1] at h0
              rw [List.getElem_set_ne (Ne.symm e)]
              exact (World.cell?_setCell_other _ _ _ _ (by intro e2; simp only [Addr.mk.injEq, true_and, and_true] at e2; omega)).trans h0
          have hcv2 := run_convert_bytes_back (P := Tryd.prog) W 22 9 5 ⟨w11.heap.size, 0, none⟩ cap ((sealS x).set k (cx a y)) Tryd.underlying22 Tryd.underlying5 Tryd.underlying9 hcells
          rw [hln] at hcv2
          have hb13 : Below w.heap.size w W := by
            rw [hW]
            exact below_drewN' (HB12.out.setCell hgb _) nn
          have hvf := verify_any ((sealS x).set k (cx a y)) W (HW.out.below hb13) (by rw [hln]; have := seal_len x; omega)
          rw [hov] at hvf
          have HVZ := Lib.hid hvf
          have HB13 := Lib.hid hb13
          clear hvf hov hcells hW hb13 hxo hka
          change (convert 22 9 (.slice (some ⟨w11.heap.size, 0, none⟩) (sealS x).length cap)).run Tryd.prog W = .ok (.string (ba ((sealS x).set k (cx a y)))) W at hcv2
          generalize ba ((sealS x).set k (cx a y)) = Z at *
          go_wp2_with fail
          refine HVZ.out.mono ?_
          rintro e w13 ⟨rfl, hb⟩
          have HB14 := Lib.hid (HB13.out.trans (hb.mono HB13.out.size))
          clear hb
          go_wp2_with fail
          go_ret
          exact ⟨rfl, HB14.out⟩

end Go.Proofs.YtbobohfhplfpgaaDoor
