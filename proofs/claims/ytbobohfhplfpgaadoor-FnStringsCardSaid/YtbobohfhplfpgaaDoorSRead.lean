/- The reference's reader of decimal numbers, walked. -/
import Derived.Test.YtbobohfhplfpgaaDoorSCut
set_option linter.unusedVariables false
namespace Go.Proofs.YtbobohfhplfpgaaDoor
open Go.RowKit

theorem dVal_take {l : List UInt8} {k : Nat} (h : k < l.length) : dVal (l.take (k + 1)) = 10 * dVal (l.take k) + ((l.getD k 0).toNat - 48) := by
  have e : l.getD k 0 = l[k] := by simp [List.getD, h]
  rw [e, List.take_succ_eq_append_getElem h, dVal, List.foldl_append]
  rfl
theorem at_mem {l : List UInt8} {k : Nat} (h : k < l.length) : l.getD k 0 ∈ l := by
  have e : l.getD k 0 = l[k] := by simp [List.getD, h]
  rw [e]
  exact List.getElem_mem h
theorem all_take {l : List UInt8} {k : Nat} (h : k < l.length) (h1 : ∀ b ∈ l.take k, isDg b = true) (h2 : isDg (l.getD k 0) = true) : ∀ b ∈ l.take (k + 1), isDg b = true := by
  have e : l.getD k 0 = l[k] := by simp [List.getD, h]
  rw [List.take_succ_eq_append_getElem h]
  intro b hb
  rcases List.mem_append.1 hb with hb | hb
  · exact h1 b hb
  · rw [List.mem_singleton] at hb
    rw [hb, ← e]
    exact h2
theorem dVal_lt6 (l : List UInt8) (h6 : l.length ≤ 6) (h : ∀ b ∈ l, isDg b = true) : dVal l < 1000000 := by
  have h1 := dVal_lt l h
  have h2 : 10 ^ l.length ≤ 10 ^ 6 := Nat.pow_le_pow_right (by omega) h6
  omega
theorem l1InN_any (n a b : Int) (w : World) :
    Calls Tryd.prog 20 #[.int .i64 n, .int .i64 a, .int .i64 b] w fun e w' => e = .returned (.bool (decide (a ≤ n) && decide (n ≤ b))) ∧ w = w' := by
  by_cases h : a ≤ n
  · by_cases h2 : n ≤ b
    · rw [decide_eq_true h, decide_eq_true h2]
      go_enter Tryd.func20, Tryd.ntmps20
      go_wp2_with fail
      go_ret
      exact ⟨rfl, rfl⟩
    · rw [decide_eq_true h, decide_eq_false h2]
      go_enter Tryd.func20, Tryd.ntmps20
      go_wp2_with fail
      go_ret
      exact ⟨rfl, rfl⟩
  · rw [decide_eq_false h]
    go_enter Tryd.func20, Tryd.ntmps20
    go_wp2_with fail
    go_ret
    exact ⟨rfl, rfl⟩
theorem l1InB_any (n a b : Int) (w : World) (t : Bool) (h : t = (decide (a ≤ n) && decide (n ≤ b))) :
    Calls Tryd.prog 20 #[.int .i64 n, .int .i64 a, .int .i64 b] w fun e w' => e = .returned (.bool t) ∧ w = w' := h ▸ l1InN_any n a b w
theorem ba_tail (a : UInt8) (l : List UInt8) : (ba (a :: l)).extract 1 (a :: l).length = ba l := by
  apply ByteArray.ext
  simp [ba]

/-- An ending with what a reader answers. -/
def RDE (l : List UInt8) (e : Ending) : Prop := ∃ v ok, e = .returned (.tuple #[.int .i64 v, .bool ok]) ∧ RD l v ok

set_option maxRecDepth 100000 in
set_option maxHeartbeats 8000000 in
theorem l1Read_any (l : List UInt8) (w : World) (hl : l.length ≤ 1000000) :
    Calls Tryd.prog 25 #[.string (ba l)] w fun e w' => RDE l e ∧ Below w.heap.size w w' := by
  have hsz := ba_size l
  by_cases h1 : 1 < l.length
  · by_cases h45 : l.head? = some 45
    · obtain ⟨T, hT⟩ : ∃ T, T = tailT l := ⟨_, rfl⟩
      have hT' : T = l.tail := by rw [hT]; unfold tailT; rw [if_pos ⟨h1, h45⟩]
      replace hT := hT.symm
      have HTT := Lib.hid hT
      have hszT := ba_size T
      have HAT := Lib.hid (fun k (h : k < (ba T).size) => ba_at h)
      have HST := Lib.hid (fun k (h : k < T.length) => dVal_take h)
      have HMEM := Lib.hid (fun k (h : k < T.length) => at_mem h)
      have HDT := Lib.hid (fun k (h : k < T.length) => all_take h)
      have HDIG := Lib.hid (fun b (hb : b ∈ T) h => rd_spec_digit (s := l) (b := b) (hT ▸ hb) h)
      have HLEN := Lib.hid (fun (h : ¬ (1 ≤ T.length ∧ T.length ≤ 6)) => rd_spec_len (s := l) (hT ▸ h))
      have hat : ∀ h : 0 < (ba l).size, (ba l)[0] = 45 := fun h => by
        rw [ba_at h]
        cases l with
        | nil => simp at h1
        | cons a l => simpa using h45
      have HEX := Lib.hid (show (ba l).extract 1 l.length = ba T by
        rw [hT']
        cases l with
        | nil => simp at h1
        | cons a l => exact ba_tail a l)
      have hTl : T.length + 1 = l.length := by rw [hT', List.length_tail]; omega
      clear hT hT' h45
      generalize hU : ba T = U at *
      clear hU
      obtain ⟨S, hS⟩ : ∃ S, S = ba l := ⟨_, rfl⟩
      rw [← hS] at hsz hat HEX ⊢
      have HSL := Lib.hid hS.symm
      clear hS
      have hat0 := hat (by omega)
      go_enter Tryd.func25, Tryd.ntmps25
      go_wp2_with fail
      rw [HEX.out]
      by_cases hin : 1 ≤ T.length ∧ T.length ≤ 6
      · obtain ⟨g1, g2⟩ := hin
        go_wp2_with fail
        refine (l1InB_any _ _ _ _ true (by simp; omega)).mono ?_
        rintro e wq ⟨rfl, rfl⟩
        go_wp2_with fail
        go_loop [5, 6] (fun n i => ∃ k : Nat, k ≤ T.length ∧ i = .int .i64 k ∧ n = .int .i64 (dVal (T.take k) : Nat) ∧ ∀ b ∈ T.take k, isDg b = true) (fun _ i => T.length - (intOf i).toNat)
        case atStart => exact ⟨0, Nat.zero_le _, rfl, rfl, by simp⟩
        case round =>
          obtain ⟨k, hk, rfl, rfl, hdg⟩ := hrel
          by_cases hlt : k < T.length
          · have h2 := HAT.out k (by omega)
            have hv := dVal_lt6 (T.take k) (by rw [List.length_take]; omega) hdg
            have HS := Lib.hid (HST.out k hlt)
            have HDG := Lib.hid hdg
            have HM := Lib.hid (HMEM.out k hlt)
            have HDD := Lib.hid (HDT.out k hlt)
            clear hdg
            generalize T.getD k 0 = b at *
            generalize dVal (T.take k) = v at *
            have hb := b.toNat_lt
            by_cases hlow : b.toNat < 48
            · have HR := Lib.hid (HDIG.out b HM.out (by unfold isDg; simp; omega))
              have hlow1 : (b.toNat : Int) < 48 := by omega
              go_wp2_with fail
              go_ret2
              exact ⟨⟨_, _, rfl, HR.out⟩, Below.refl _ _⟩
            · by_cases hhigh : 57 < b.toNat
              · have HR := Lib.hid (HDIG.out b HM.out (by unfold isDg; simp; omega))
                have hlow1 : ¬ (b.toNat : Int) < 48 := by omega
                have hhigh1 : (57 : Int) < (b.toNat : Int) := by omega
                go_wp2_with fail
                go_ret2
                exact ⟨⟨_, _, rfl, HR.out⟩, Below.refl _ _⟩
              · have hlow1 : ¬ (b.toNat : Int) < 48 := by omega
                have hhigh1 : ¬ (57 : Int) < (b.toNat : Int) := by omega
                have hcon : (((b.toNat : Int) - 48) : Int) = ((b.toNat - 48 : Nat) : Int) := by omega
                have HDN := Lib.hid (HDD.out HDG.out (by unfold isDg; simp; omega))
                go_wp2_with fail
                go_round
                case rel => exact ⟨k + 1, by omega, by simp, by rw [HS.out]; congr 1, HDN.out⟩
                case measure => simp [intOf]; omega
          · obtain rfl : k = T.length := by omega
            rw [List.take_length] at hdg ⊢
            have hv := dVal_lt6 T g2 hdg
            have HX := Lib.hid (fun n hn => rd_spec_end (s := l) (by rw [HTT.out]; exact g2) (by rw [HTT.out]; exact hdg) (n := n) hn)
            rw [HTT.out] at HX
            clear hdg
            generalize dVal T = v at *
            by_cases hneg : T.length < l.length
            · have HF := Lib.hid (HX.out _ rfl)
              rw [if_pos hneg] at HF
              have HN := Lib.hid (l1Num_any (-(v : Int)) w (by omega) (by omega))
              by_cases hs : Lib.itoa (-(v : Int)) = l
              · rw [if_pos hs, decide_eq_true hs] at HF
                rw [hs, HSL.out] at HN
                clear hs
                have hf := str_eq S
                go_wp2_with fail
                refine HN.out.mono ?_
                rintro e w2 ⟨rfl, hb⟩
                have HB := Lib.hid hb
                clear hb
                go_wp2_with fail
                go_ret2
                exact ⟨⟨_, _, rfl, HF.out⟩, HB.out⟩
              · rw [if_neg hs, decide_eq_false hs] at HF
                have hf := str_ne (x := ba (Lib.itoa (-(v : Int)))) (y := S) (fun h => hs (by rw [← ba_list (Lib.itoa (-(v : Int))), h, ← HSL.out, ba_list]))
                generalize ba (Lib.itoa (-(v : Int))) = Z at *
                clear hs
                go_wp2_with fail
                refine HN.out.mono ?_
                rintro e w2 ⟨rfl, hb⟩
                have HB := Lib.hid hb
                clear hb
                go_wp2_with fail
                go_ret2
                exact ⟨⟨_, _, rfl, HF.out⟩, HB.out⟩
            · have HF := Lib.hid (HX.out _ rfl)
              rw [if_neg hneg] at HF
              have HN := Lib.hid (l1Num_any (v : Int) w (by omega) (by omega))
              by_cases hs : Lib.itoa (v : Int) = l
              · rw [if_pos hs, decide_eq_true hs] at HF
                rw [hs, HSL.out] at HN
                clear hs
                have hf := str_eq S
                go_wp2_with fail
                refine HN.out.mono ?_
                rintro e w2 ⟨rfl, hb⟩
                have HB := Lib.hid hb
                clear hb
                go_wp2_with fail
                go_ret2
                exact ⟨⟨_, _, rfl, HF.out⟩, HB.out⟩
              · rw [if_neg hs, decide_eq_false hs] at HF
                have hf := str_ne (x := ba (Lib.itoa (v : Int))) (y := S) (fun h => hs (by rw [← ba_list (Lib.itoa (v : Int)), h, ← HSL.out, ba_list]))
                generalize ba (Lib.itoa (v : Int)) = Z at *
                clear hs
                go_wp2_with fail
                refine HN.out.mono ?_
                rintro e w2 ⟨rfl, hb⟩
                have HB := Lib.hid hb
                clear hb
                go_wp2_with fail
                go_ret2
                exact ⟨⟨_, _, rfl, HF.out⟩, HB.out⟩
      · have HR := Lib.hid (HLEN.out hin)
        go_wp2_with fail
        refine (l1InB_any _ _ _ _ false (by simp; omega)).mono ?_
        rintro e wq ⟨rfl, rfl⟩
        go_wp2_with fail
        go_ret2
        exact ⟨⟨_, _, rfl, HR.out⟩, Below.refl _ _⟩
    · have hT : tailT l = l := by unfold tailT; rw [if_neg fun h => h45 h.2]
      have HTT := Lib.hid hT
      have HAT := Lib.hid (fun k (h : k < (ba l).size) => ba_at h)
      have HST := Lib.hid (fun k (h : k < l.length) => dVal_take h)
      have HMEM := Lib.hid (fun k (h : k < l.length) => at_mem h)
      have HDT := Lib.hid (fun k (h : k < l.length) => all_take h)
      have HDIG := Lib.hid (fun b (hb : b ∈ l) h => rd_spec_digit (s := l) (b := b) (hT.symm ▸ hb) h)
      have HLEN := Lib.hid (fun (h : ¬ (1 ≤ l.length ∧ l.length ≤ 6)) => rd_spec_len (s := l) (hT.symm ▸ h))
      have hat : ∀ h : 0 < (ba l).size, ¬ (((ba l)[0].toNat : Nat) : Int) = 45 := fun h e => by
        rw [ba_at h] at e
        cases l with
        | nil => simp at h1
        | cons a l =>
          apply h45
          have : a.toNat = (45 : UInt8).toNat := by simpa using Int.ofNat_inj.1 e
          rw [UInt8.toNat_inj.1 this]
          rfl
      clear hT h45
      obtain ⟨S, hS⟩ : ∃ S, S = ba l := ⟨_, rfl⟩
      rw [← hS] at hsz hat HAT ⊢
      have HSL := Lib.hid hS.symm
      clear hS
      have hat0 := hat (by omega)
      have hlo := (S[0]'(by omega)).toNat_lt
      generalize ha : S[0]'(by omega) = a at hat0 hlo
      go_enter Tryd.func25, Tryd.ntmps25
      go_wp2_with fail
      by_cases hin : 1 ≤ l.length ∧ l.length ≤ 6
      · obtain ⟨g1, g2⟩ := hin
        go_wp2_with fail
        refine (l1InB_any _ _ _ _ true (by simp; omega)).mono ?_
        rintro e wq ⟨rfl, rfl⟩
        go_wp2_with fail
        go_loop [5, 6] (fun n i => ∃ k : Nat, k ≤ l.length ∧ i = .int .i64 k ∧ n = .int .i64 (dVal (l.take k) : Nat) ∧ ∀ b ∈ l.take k, isDg b = true) (fun _ i => l.length - (intOf i).toNat)
        case atStart => exact ⟨0, Nat.zero_le _, rfl, rfl, by simp⟩
        case round =>
          obtain ⟨k, hk, rfl, rfl, hdg⟩ := hrel
          by_cases hlt : k < l.length
          · have h2 := HAT.out k (by omega)
            have hv := dVal_lt6 (l.take k) (by rw [List.length_take]; omega) hdg
            have HS := Lib.hid (HST.out k hlt)
            have HDG := Lib.hid hdg
            have HM := Lib.hid (HMEM.out k hlt)
            have HDD := Lib.hid (HDT.out k hlt)
            clear hdg
            generalize l.getD k 0 = b at *
            generalize dVal (l.take k) = v at *
            have hb := b.toNat_lt
            by_cases hlow : b.toNat < 48
            · have HR := Lib.hid (HDIG.out b HM.out (by unfold isDg; simp; omega))
              have hlow1 : (b.toNat : Int) < 48 := by omega
              go_wp2_with fail
              go_ret2
              exact ⟨⟨_, _, rfl, HR.out⟩, Below.refl _ _⟩
            · by_cases hhigh : 57 < b.toNat
              · have HR := Lib.hid (HDIG.out b HM.out (by unfold isDg; simp; omega))
                have hlow1 : ¬ (b.toNat : Int) < 48 := by omega
                have hhigh1 : (57 : Int) < (b.toNat : Int) := by omega
                go_wp2_with fail
                go_ret2
                exact ⟨⟨_, _, rfl, HR.out⟩, Below.refl _ _⟩
              · have hlow1 : ¬ (b.toNat : Int) < 48 := by omega
                have hhigh1 : ¬ (57 : Int) < (b.toNat : Int) := by omega
                have hcon : (((b.toNat : Int) - 48) : Int) = ((b.toNat - 48 : Nat) : Int) := by omega
                have HDN := Lib.hid (HDD.out HDG.out (by unfold isDg; simp; omega))
                go_wp2_with fail
                go_round
                case rel => exact ⟨k + 1, by omega, by simp, by rw [HS.out]; congr 1, HDN.out⟩
                case measure => simp [intOf]; omega
          · obtain rfl : k = l.length := by omega
            rw [List.take_length] at hdg ⊢
            have hv := dVal_lt6 l g2 hdg
            have HX := Lib.hid (fun n hn => rd_spec_end (s := l) (by rw [HTT.out]; exact g2) (by rw [HTT.out]; exact hdg) (n := n) hn)
            rw [HTT.out] at HX
            clear hdg
            generalize dVal l = v at *
            have HF := Lib.hid (HX.out _ rfl)
            rw [if_neg (Nat.lt_irrefl _)] at HF
            have HN := Lib.hid (l1Num_any (v : Int) w (by omega) (by omega))
            by_cases hs : Lib.itoa (v : Int) = l
            · rw [if_pos hs, decide_eq_true hs] at HF
              rw [hs, HSL.out] at HN
              clear hs
              have hf := str_eq S
              go_wp2_with fail
              refine HN.out.mono ?_
              rintro e w2 ⟨rfl, hb⟩
              have HB := Lib.hid hb
              clear hb
              go_wp2_with fail
              go_ret2
              exact ⟨⟨_, _, rfl, HF.out⟩, HB.out⟩
            · rw [if_neg hs, decide_eq_false hs] at HF
              have hf := str_ne (x := ba (Lib.itoa (v : Int))) (y := S) (fun h => hs (by rw [← ba_list (Lib.itoa (v : Int)), h, ← HSL.out, ba_list]))
              generalize ba (Lib.itoa (v : Int)) = Z at *
              clear hs
              go_wp2_with fail
              refine HN.out.mono ?_
              rintro e w2 ⟨rfl, hb⟩
              have HB := Lib.hid hb
              clear hb
              go_wp2_with fail
              go_ret2
              exact ⟨⟨_, _, rfl, HF.out⟩, HB.out⟩
      · have HR := Lib.hid (HLEN.out hin)
        go_wp2_with fail
        refine (l1InB_any _ _ _ _ false (by simp; omega)).mono ?_
        rintro e wq ⟨rfl, rfl⟩
        go_wp2_with fail
        go_ret2
        exact ⟨⟨_, _, rfl, HR.out⟩, Below.refl _ _⟩
  · have hT : tailT l = l := by unfold tailT; rw [if_neg fun h => h1 h.1]
    have HTT := Lib.hid hT
    have HAT := Lib.hid (fun k (h : k < (ba l).size) => ba_at h)
    have HST := Lib.hid (fun k (h : k < l.length) => dVal_take h)
    have HMEM := Lib.hid (fun k (h : k < l.length) => at_mem h)
    have HDT := Lib.hid (fun k (h : k < l.length) => all_take h)
    have HDIG := Lib.hid (fun b (hb : b ∈ l) h => rd_spec_digit (s := l) (b := b) (hT.symm ▸ hb) h)
    have HLEN := Lib.hid (fun (h : ¬ (1 ≤ l.length ∧ l.length ≤ 6)) => rd_spec_len (s := l) (hT.symm ▸ h))
    clear hT
    obtain ⟨S, hS⟩ : ∃ S, S = ba l := ⟨_, rfl⟩
    rw [← hS] at hsz HAT ⊢
    have HSL := Lib.hid hS.symm
    clear hS
    go_enter Tryd.func25, Tryd.ntmps25
    go_wp2_with fail
    by_cases hin : 1 ≤ l.length ∧ l.length ≤ 6
    · obtain ⟨g1, g2⟩ := hin
      go_wp2_with fail
      refine (l1InB_any _ _ _ _ true (by simp; omega)).mono ?_
      rintro e wq ⟨rfl, rfl⟩
      go_wp2_with fail
      go_loop [5, 6] (fun n i => ∃ k : Nat, k ≤ l.length ∧ i = .int .i64 k ∧ n = .int .i64 (dVal (l.take k) : Nat) ∧ ∀ b ∈ l.take k, isDg b = true) (fun _ i => l.length - (intOf i).toNat)
      case atStart => exact ⟨0, Nat.zero_le _, rfl, rfl, by simp⟩
      case round =>
        obtain ⟨k, hk, rfl, rfl, hdg⟩ := hrel
        by_cases hlt : k < l.length
        · have h2 := HAT.out k (by omega)
          have hv := dVal_lt6 (l.take k) (by rw [List.length_take]; omega) hdg
          have HS := Lib.hid (HST.out k hlt)
          have HDG := Lib.hid hdg
          have HM := Lib.hid (HMEM.out k hlt)
          have HDD := Lib.hid (HDT.out k hlt)
          clear hdg
          generalize l.getD k 0 = b at *
          generalize dVal (l.take k) = v at *
          have hb := b.toNat_lt
          by_cases hlow : b.toNat < 48
          · have HR := Lib.hid (HDIG.out b HM.out (by unfold isDg; simp; omega))
            have hlow1 : (b.toNat : Int) < 48 := by omega
            go_wp2_with fail
            go_ret2
            exact ⟨⟨_, _, rfl, HR.out⟩, Below.refl _ _⟩
          · by_cases hhigh : 57 < b.toNat
            · have HR := Lib.hid (HDIG.out b HM.out (by unfold isDg; simp; omega))
              have hlow1 : ¬ (b.toNat : Int) < 48 := by omega
              have hhigh1 : (57 : Int) < (b.toNat : Int) := by omega
              go_wp2_with fail
              go_ret2
              exact ⟨⟨_, _, rfl, HR.out⟩, Below.refl _ _⟩
            · have hlow1 : ¬ (b.toNat : Int) < 48 := by omega
              have hhigh1 : ¬ (57 : Int) < (b.toNat : Int) := by omega
              have hcon : (((b.toNat : Int) - 48) : Int) = ((b.toNat - 48 : Nat) : Int) := by omega
              have HDN := Lib.hid (HDD.out HDG.out (by unfold isDg; simp; omega))
              go_wp2_with fail
              go_round
              case rel => exact ⟨k + 1, by omega, by simp, by rw [HS.out]; congr 1, HDN.out⟩
              case measure => simp [intOf]; omega
        · obtain rfl : k = l.length := by omega
          rw [List.take_length] at hdg ⊢
          have hv := dVal_lt6 l g2 hdg
          have HX := Lib.hid (fun n hn => rd_spec_end (s := l) (by rw [HTT.out]; exact g2) (by rw [HTT.out]; exact hdg) (n := n) hn)
          rw [HTT.out] at HX
          clear hdg
          generalize dVal l = v at *
          have HF := Lib.hid (HX.out _ rfl)
          rw [if_neg (Nat.lt_irrefl _)] at HF
          have HN := Lib.hid (l1Num_any (v : Int) w (by omega) (by omega))
          by_cases hs : Lib.itoa (v : Int) = l
          · rw [if_pos hs, decide_eq_true hs] at HF
            rw [hs, HSL.out] at HN
            clear hs
            have hf := str_eq S
            go_wp2_with fail
            refine HN.out.mono ?_
            rintro e w2 ⟨rfl, hb⟩
            have HB := Lib.hid hb
            clear hb
            go_wp2_with fail
            go_ret2
            exact ⟨⟨_, _, rfl, HF.out⟩, HB.out⟩
          · rw [if_neg hs, decide_eq_false hs] at HF
            have hf := str_ne (x := ba (Lib.itoa (v : Int))) (y := S) (fun h => hs (by rw [← ba_list (Lib.itoa (v : Int)), h, ← HSL.out, ba_list]))
            generalize ba (Lib.itoa (v : Int)) = Z at *
            clear hs
            go_wp2_with fail
            refine HN.out.mono ?_
            rintro e w2 ⟨rfl, hb⟩
            have HB := Lib.hid hb
            clear hb
            go_wp2_with fail
            go_ret2
            exact ⟨⟨_, _, rfl, HF.out⟩, HB.out⟩
    · have HR := Lib.hid (HLEN.out hin)
      go_wp2_with fail
      refine (l1InB_any _ _ _ _ false (by simp; omega)).mono ?_
      rintro e wq ⟨rfl, rfl⟩
      go_wp2_with fail
      go_ret2
      exact ⟨⟨_, _, rfl, HR.out⟩, Below.refl _ _⟩

end Go.Proofs.YtbobohfhplfpgaaDoor
