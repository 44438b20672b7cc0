/- Lists of names, and signatures: the reference's tests walked. -/
import Derived.Test.YtijkdpdmclkmlaaGreatDoorProg
import Derived.Test.YtijkdpdmclkmlaaGreatDoorJ6
set_option linter.unusedSimpArgs false
set_option linter.unusedVariables false
set_option maxRecDepth 100000
set_option maxHeartbeats 16000000
namespace Go.Proofs.YtijkdpdmclkmlaaGreatDoor
open Go.RowKit
theorem l2Name_q (s : ByteArray) (w : World) (hs : s.size ≤ maxLen) : Calls Tryz.prog 201 #[.string s] w fun e w' => e = .returned (.bool (nameB s)) ∧ w' = w :=
  (l2Name_any s w hs).mono fun _ _ ⟨a, b⟩ => ⟨a, b.symm⟩

theorem l2Names_any (A : Option Addr) (c : Nat) (l : List ByteArray) (w : World) (hl : l.length ≤ 1000) (hz : ∀ s ∈ l, s.size ≤ 1000) (hA : Cells w A (strs l)) :
    Calls Tryz.prog 179 #[.slice A l.length c] w fun e w' => e = .returned (.bool (namesB l)) ∧ Below w.heap.size w w' := by
  have HA := Lib.hid (show ∀ W, Below w.heap.size w W → Cells W A (strs l) from fun W hb => hA.below hb)
  have HZ := Lib.hid (show ∀ k, k < l.length → (l.getD k default).size ≤ 1000 from fun k hk => by
    simp only [List.getD, List.getElem?_eq_getElem hk, Option.getD_some]
    exact hz _ (List.getElem_mem hk))
  clear hA hz
  go_enter Tryz.func179, Tryz.ntmps179
  go_wp2_with fail
  go_loopw [3] (fun i wr => ∃ k : Nat, k ≤ l.length ∧ i = .int .i64 k ∧ (∀ j, j < k → nameAt l j = true) ∧ Below w.heap.size w wr)
    (fun i _ => l.length - (intOf i).toNat)
  case atStart => exact ⟨0, Nat.zero_le _, rfl, fun j hj => by omega, Below.refl _ _⟩
  obtain ⟨k, hk, rfl, hall, hbel⟩ := hrel
  have HALL := Lib.hid hall
  have HBE := Lib.hid hbel
  clear hall
  by_cases hlt : k < l.length
  · obtain ⟨b, o, eA, hc⟩ := (HA.out wr hbel).str hlt
    have c0 := hc k hlt
    have HN := Lib.hid (fun W => l2Name_q (l.getD k default) W (by have := HZ.out k hlt; unfold maxLen; omega))
    have HAT := Lib.hid (show nameAt l k = (nameB (l.getD k default) && (k == 0 || lessS (l.getD (k - 1) default) (l.getD k default))) from rfl)
    have HF := Lib.hid (show nameAt l k = false → namesB l = false from fun h => by unfold namesB; rw [allR_false hlt h, Bool.false_and])
    have HN2 := Lib.hid (show nameAt l k = true → ∀ j, j < k + 1 → nameAt l j = true from fun h => all_next HALL.out h)
    cases k with
    | zero =>
      subst eA
      rw [Nat.add_zero] at c0
      clear hc hbel
      cases hn : nameB (l.getD 0 default)
      · have HFF := Lib.hid (HF.out (by rw [HAT.out, hn]; rfl))
        rw [hn] at HN
        clear hn
        generalize l.getD 0 default = s at *
        go_wp2_with fail
        go_quiet ((go_at_call 201; exact Calls.quiet_of_same (HN.out _)))
        go_wp2_with fail
        go_ret
        exact ⟨by rw [HFF.out]; rfl, below_drewN' HBE.out _⟩
      have HTT := Lib.hid (HN2.out (by rw [HAT.out, hn]; rfl))
      rw [hn] at HN
      clear hn
      generalize l.getD 0 default = s at *
      go_wp2_with fail
      go_quiet ((go_at_call 201; exact Calls.quiet_of_same (HN.out _)))
      go_wp2_with fail
      go_roundw
      case rel => exact ⟨1, by omega, by go_num, HTT.out, below_drewN' HBE.out _⟩
      case measure => simp [intOf]; omega
    | succ m =>
      have c1 := hc m (by omega)
      subst eA
      clear hc hbel
      rw [Nat.add_sub_cancel] at HAT
      cases hn : nameB (l.getD (m + 1) default)
      · have HFF := Lib.hid (HF.out (by rw [HAT.out, hn]; rfl))
        rw [hn] at HN
        clear hn c1
        generalize l.getD (m + 1) default = s at *
        go_wp2_with fail
        go_quiet ((go_at_call 201; exact Calls.quiet_of_same (HN.out _)))
        go_wp2_with fail
        go_ret
        exact ⟨by rw [HFF.out]; rfl, below_drewN' HBE.out _⟩
      rw [hn] at HN
      cases hq : lessS (l.getD m default) (l.getD (m + 1) default)
      · have HFF := Lib.hid (HF.out (by rw [HAT.out, hq]; simp))
        have hlq : Op.bytesLess (l.getD m default).toList (l.getD (m + 1) default).toList = false := hq
        clear hn hq
        generalize l.getD (m + 1) default = s at *
        generalize l.getD m default = p at *
        go_wp2_with fail
        go_quiet ((go_at_call 201; exact Calls.quiet_of_same (HN.out _)))
        go_wp2_with fail
        go_ret
        exact ⟨by rw [HFF.out]; rfl, below_drewN' HBE.out _⟩
      have HTT := Lib.hid (HN2.out (by rw [HAT.out, hn, hq]; simp))
      have hlq : Op.bytesLess (l.getD m default).toList (l.getD (m + 1) default).toList = true := hq
      clear hn hq
      generalize l.getD (m + 1) default = s at *
      generalize l.getD m default = p at *
      go_wp2_with fail
      go_quiet ((go_at_call 201; exact Calls.quiet_of_same (HN.out _)))
      go_wp2_with fail
      go_roundw
      case rel => exact ⟨m + 1 + 1, by omega, by go_num, HTT.out, below_drewN' HBE.out _⟩
      case measure => simp [intOf]; omega
  obtain rfl : k = l.length := by omega
  have HE := Lib.hid (show namesB l = decide ((l.length : Int) ≤ 16) from by
    unfold namesB
    rw [allR_true HALL.out, Bool.true_and]
    by_cases h : l.length ≤ 16
    · rw [decide_eq_true h, decide_eq_true (by omega)]
    rw [decide_eq_false h, decide_eq_false (by omega)])
  clear hbel
  go_wp2_with fail
  go_ret
  exact ⟨by rw [HE.out]; rfl, HBE.out⟩

theorem RSl.cts {w w' : World} {v : Value} {l : List Ct} (h : RSl RCt 3 w v l) (hb : Below w.heap.size w w') : RSl RCt 3 w' v l := h.below RCt_keep hb

/-- No control before k bears the name of the control at i. -/
def NoNm (sig : List Ct) (i k : Nat) : Prop := ∀ j, j < k → decide ((ctA sig j).1 = (ctA sig i).1) = false
theorem noNm_all {sig : List Ct} {i : Nat} (h : NoNm sig i i) : (anyR i fun k => decide ((ctA sig k).1 = (ctA sig i).1)) = false := by
  unfold anyR
  rw [List.any_eq_false]
  intro x hx
  rw [h x (List.mem_range.1 hx)]
  exact Bool.false_ne_true
theorem noNm_any {sig : List Ct} {i k : Nat} (hk : k < i) (h : decide ((ctA sig k).1 = (ctA sig i).1) = true) : (anyR i fun k => decide ((ctA sig k).1 = (ctA sig i).1)) = true := by
  unfold anyR
  rw [List.any_eq_true]
  exact ⟨k, List.mem_range.2 hk, h⟩

theorem l2Sig_any (v : Value) (sig : List Ct) (w : World) (hs : SmallS sig) (hv : RSl RCt 3 w v sig) :
    Calls Tryz.prog 194 #[v] w fun e w' => e = .returned (.bool (sigB sig)) ∧ Below w.heap.size w w' := by
  have HV := Lib.hid (show ∀ W, Below w.heap.size w W → RSl RCt 3 W v sig from fun W hb => hv.cts hb)
  have HZ := Lib.hid (show ∀ k, k < sig.length → (ctA sig k).1.size ≤ 1000 from fun k hk => by
    rw [ctA_get hk]
    exact hs.name _ (List.getElem_mem hk))
  have hl := hs.len
  obtain ⟨A, c, rfl, _⟩ := hv.form
  clear hv hs
  go_enter Tryz.func194, Tryz.ntmps194
  go_wp2_with fail
  go_loopw [3] (fun i wr => ∃ k : Nat, k ≤ sig.length ∧ i = .int .i64 k ∧ (∀ j, j < k → ctB sig j = true) ∧ Below w.heap.size w wr)
    (fun i _ => sig.length - (intOf i).toNat)
  case atStart => exact ⟨0, Nat.zero_le _, rfl, fun j hj => by omega, Below.refl _ _⟩
  obtain ⟨i, hi, rfl, hall, hbel⟩ := hrel
  have HALL := Lib.hid hall
  have HBE := Lib.hid hbel
  clear hall
  by_cases hlt : i < sig.length
  · obtain ⟨b, o, c', ev, k0, k1, k2⟩ := ct_at (HV.out wr hbel) hlt
    cases ev
    have HN := Lib.hid (fun W => l2Name_any (ctA sig i).1 W (by have := HZ.out i hlt; unfold maxLen; omega))
    have HAT := Lib.hid (show ctB sig i = (nameB (ctA sig i).1 && inB (ctA sig i).2.1 0 3 && inB (ctA sig i).2.2 0 2 && !anyR i fun k => decide ((ctA sig k).1 = (ctA sig i).1)) from rfl)
    have HF := Lib.hid (show ctB sig i = false → sigB sig = false from fun h => by unfold sigB; rw [allR_false hlt h, Bool.and_false])
    have HN2 := Lib.hid (show ctB sig i = true → ∀ j, j < i + 1 → ctB sig j = true from fun h => all_next HALL.out h)
    have HQ := Lib.hid l1In_any
    rw [← ctA_get hlt] at k0 k1 k2
    clear hbel
    obtain ⟨s, hS⟩ : ∃ s, s = (ctA sig i).1 := ⟨_, rfl⟩
    obtain ⟨x, hX⟩ : ∃ x, x = (ctA sig i).2.1 := ⟨_, rfl⟩
    obtain ⟨y, hY⟩ : ∃ y, y = (ctA sig i).2.2 := ⟨_, rfl⟩
    have HSS := Lib.hid hS
    rw [← hX, ← hY] at HAT
    rw [← hS] at HN k0 HAT
    rw [← hX] at k1
    rw [← hY] at k2
    clear hS hX hY
    cases hn : nameB s
    · have HFF := Lib.hid (HF.out (by rw [HAT.out, hn]; rfl))
      rw [hn] at HN
      clear hn
      go_wp2_with (first | ((with_reducible refine (HN.out _).mono ?_); rintro e w' ⟨rfl, rfl⟩) | ((with_reducible refine (HQ.out _ _ _ _).mono ?_); rintro e w' ⟨rfl, rfl⟩))
      go_ret
      exact ⟨by rw [HFF.out]; rfl, HBE.out⟩
    rw [hn] at HN
    cases h1 : inB x 0 3
    · have HFF := Lib.hid (HF.out (by rw [HAT.out, h1]; simp))
      clear hn
      go_wp2_with (first | ((with_reducible refine (HN.out _).mono ?_); rintro e w' ⟨rfl, rfl⟩) | ((with_reducible refine (HQ.out _ _ _ _).mono ?_); rintro e w' ⟨rfl, rfl⟩))
      go_ret
      exact ⟨by rw [HFF.out]; rfl, HBE.out⟩
    cases h2 : inB y 0 2
    · have HFF := Lib.hid (HF.out (by rw [HAT.out, h2]; simp))
      clear hn
      go_wp2_with (first | ((with_reducible refine (HN.out _).mono ?_); rintro e w' ⟨rfl, rfl⟩) | ((with_reducible refine (HQ.out _ _ _ _).mono ?_); rintro e w' ⟨rfl, rfl⟩))
      go_ret
      exact ⟨by rw [HFF.out]; rfl, HBE.out⟩
    have HAT2 := Lib.hid (show ctB sig i = !anyR i (fun k => decide ((ctA sig k).1 = (ctA sig i).1)) from by rw [HAT.out, hn, h1, h2]; rw [HSS.out]; rfl)
    clear hn HAT
    go_wp2_with (first | ((with_reducible refine (HN.out _).mono ?_); rintro e w' ⟨rfl, rfl⟩) | ((with_reducible refine (HQ.out _ _ _ _).mono ?_); rintro e w' ⟨rfl, rfl⟩))
    obtain ⟨wa, hwa⟩ : ∃ wa, wa = wr := ⟨_, rfl⟩
    subst hwa
    go_loopw [4] (fun z wx => ∃ k : Nat, k ≤ i ∧ z = .int .i64 k ∧ NoNm sig i k ∧ Below w.heap.size w wx)
      (fun z _ => i - (intOf z).toNat)
    case atStart => exact ⟨0, Nat.zero_le _, rfl, fun j hj => by omega, HBE.out⟩
    obtain ⟨k, hk, rfl, hno, hbx⟩ := hrel
    have HNO := Lib.hid hno
    have HBX := Lib.hid hbx
    obtain ⟨b', o', c'', ev, j0, _, _⟩ := ct_at (HV.out _ hbx) hlt
    cases ev
    by_cases hki : k < i
    · obtain ⟨b', o', c'', ev, q0, _, _⟩ := ct_at (HV.out _ hbx) (show k < sig.length by omega)
      cases ev
      rw [← ctA_get hlt, ← HSS.out] at j0
      rw [← ctA_get (show k < sig.length by omega)] at q0
      clear hno hbx k0 k1 k2
      by_cases he : (ctA sig k).1 = s
      · have HFF := Lib.hid (HF.out (by rw [HAT2.out, noNm_any hki (by rw [← HSS.out]; exact decide_eq_true he)]; rfl))
        have hee := str_eq s
        rw [he] at q0
        clear he
        go_wp2_with fail
        go_quiet (fail)
        go_wp2_with fail
        go_ret
        exact ⟨by rw [HFF.out]; rfl, below_drewN' HBX.out _⟩
      have HN3 := Lib.hid (show NoNm sig i (k + 1) from fun j hj => by
        rcases Nat.lt_succ_iff_lt_or_eq.1 hj with h' | h'
        · exact HNO.out j h'
        rw [h', ← HSS.out]; exact decide_eq_false he)
      have hee := str_ne he
      clear he
      generalize (ctA sig k).1 = t at *
      go_wp2_with fail
      go_quiet (fail)
      go_wp2_with fail
      go_roundw
      case rel => exact ⟨k + 1, by omega, by go_num, HN3.out, below_drewN' HBX.out _⟩
      case measure => simp [intOf]; omega
    obtain rfl : k = i := by omega
    have HTT := Lib.hid (HN2.out (by rw [HAT2.out, noNm_all HNO.out]; rfl))
    clear hno hbx k0 k1 k2 j0
    go_wp2_with fail
    go_roundw
    case rel => exact ⟨k + 1, by omega, by go_num, HTT.out, HBX.out⟩
    case measure => simp [intOf]; omega
  obtain rfl : i = sig.length := by omega
  have HE := Lib.hid (show sigB sig = inB sig.length 1 6 from by unfold sigB; rw [allR_true HALL.out, Bool.and_true])
  clear hbel
  go_wp2_with ((with_reducible refine (l1In_any ..).mono ?_); rintro e w' ⟨rfl, rfl⟩)
  go_ret
  exact ⟨by rw [HE.out]; rfl, HBE.out⟩

end Go.Proofs.YtijkdpdmclkmlaaGreatDoor
