/- slices.Compact at strings: library walked. -/
import Derived.Test.YtijkdpdmclkmlaaGreatDoorProg
import Derived.Test.YtijkdpdmclkmlaaGreatDoorJ31
import Derived.Test.YtijkdpdmclkmlaaGreatDoorJ5
import Derived.Handy
import Derived.StillTailTactics
import Derived.Test.YtijkdpdmclkmlaaGreatDoorJ0
import Derived.Lib.SliceRun
import Derived.Laws.AppendOwnNone
import Derived.Deep.RegionLaw
import Derived.Test.YtijkdpdmclkmlaaGreatDoorJ2
import Derived.Test.YtijkdpdmclkmlaaGreatDoorJ18
import Derived.Deep.QuietTactic
import Derived.BigQuiet
set_option linter.unusedSimpArgs false
set_option linter.unusedVariables false
set_option maxRecDepth 100000
set_option maxHeartbeats 16000000
namespace Go.Proofs.YtijkdpdmclkmlaaGreatDoor
open Go.RowKit
/-- An owned row of numbers, read at a place. -/
theorem owns_strC {w : World} {B g n c : Nat} {l : List ByteArray} (h : w.ownsRow B 9 1 (.slice (some ⟨g, 0, none⟩) n c) n (strs l)) {k : Nat} {x : ByteArray} (hx : l[k]? = some x) : w.cell? ⟨g, k, none⟩ = some (.string x) := by
  obtain ⟨b, o, e, hc⟩ := (Cells.of_owns h).at_ (k := k) (by have := (List.getElem?_eq_some_iff.1 hx).1; simpa [strs] using this)
  cases e
  have := hc k (.string x) (by simp [strs, hx])
  rw [Nat.zero_add] at this
  exact this

theorem strsC_len (l : List ByteArray) : (strs l).length = l.length := by simp [strs]
theorem strsC_app (a b : List ByteArray) : strs (a ++ b) = strs a ++ strs b := by simp [strs]

theorem compactS_any (g c B : Nat) (l : List ByteArray) (w : World) (hn : l.length ≤ 1000000) (h : w.ownsRow B 9 1 (.slice (some ⟨g, 0, none⟩) l.length c) l.length (strs l)) :
    Calls Tryz.prog 200 #[.slice (some ⟨g, 0, none⟩) l.length c] w fun e w' => e = .returned (.slice (some ⟨g, 0, none⟩) (compC default l l.length).length c) ∧ w'.ownsRow B 9 1 (.slice (some ⟨g, 0, none⟩) (compC default l l.length).length c) (compC default l l.length).length (strs (compC default l l.length)) ∧ w.grownBy w' (some g) := by
  have hcap : l.length ≤ c := by
    rcases h.2 with ⟨e, _⟩ | ⟨_, _, _, e, _, _, h1, _⟩
    · cases e
    cases e; exact h1
  have hcm : c ≤ maxLen := by
    rcases h.2 with ⟨e, _⟩ | ⟨_, _, _, e, _, _, _, h1, _⟩
    · cases e
    cases e; exact h1
  have hgB : B ≤ g := (h.lt g rfl).1
  unfold maxLen at hcm
  have HO := Lib.hid h
  by_cases h2 : l.length < 2
  · have hall : compC default l l.length = l := by
      match l, h2 with
      | [], _ => rfl
      | [a], _ => rfl
      | a :: b :: l, h2 => simp at h2; omega
    have HE := Lib.hid hall
    clear h hall
    go_enter Tryz.func200, Tryz.ntmps200
    go_wp2_with fail
    go_ret
    rw [HE.out]
    exact ⟨rfl, HO.out, World.grownBy.refl _ _⟩
  clear h
  go_enter Tryz.func200, Tryz.ntmps200
  go_wp2_with fail
  go_loopw [3] (fun i wr => ∃ k : Nat, 1 ≤ k ∧ k ≤ l.length ∧ i = .int .i64 k ∧ compC default l k = l.take k ∧ wr.ownsRow B 9 1 (.slice (some ⟨g, 0, none⟩) l.length c) l.length (strs l) ∧ w.grownBy wr (some g))
    (fun i _ => l.length - (intOf i).toNat)
  case atStart => exact ⟨1, Nat.le_refl _, by omega, rfl, compC_one l (by omega), HO.out, World.grownBy.refl _ _⟩
  clear HO
  obtain ⟨k, hk1, hk, rfl, hco, hown, hgr⟩ := hrel
  have HCO := Lib.hid hco
  have HO := Lib.hid (fun m => show (wr.drewN m).ownsRow B 9 1 (.slice (some ⟨g, 0, none⟩) l.length c) l.length (strs l) from hown)
  have HG := Lib.hid (fun m => show w.grownBy (wr.drewN m) (some g) from ⟨hgr.os, hgr.tape, hgr.output, hgr.size, hgr.block⟩)
  by_cases hlt : k < l.length
  · have hx : l[k]? = some (l.getD k default) := by simp [List.getD, hlt]
    have hy : l[k - 1]? = some (l.getD (k - 1) default) := by simp [List.getD, show k - 1 < l.length by omega]
    have a0 := owns_strC hown hx
    have b0 := owns_strC hown hy
    have hkp : keepC default l k = !decide (l.getD k default = l.getD (k - 1) default) := by
      unfold keepC
      rw [show (k == 0) = false from by rw [beq_eq_false_iff_ne]; omega, Bool.false_or]
    have q0 : (0 : Int) ≤ (k : Int) := by omega
    have q1 : (k : Int) < (l.length : Int) := by omega
    have q2 : (0 : Int) ≤ (k : Int) - 1 := by omega
    have q3 : (k : Int) - 1 < (l.length : Int) := by omega
    have q4 : ((k : Int) - 1).toNat = k - 1 := by omega
    clear hown hgr hco
    generalize hxe : l.getD k default = x at *
    generalize hye : l.getD (k - 1) default = y at *
    have HXE := Lib.hid hxe
    have HYE := Lib.hid hye
    clear hxe hye hx hy
    cases hd : decide (x = y)
    · have eqx := str_ne (show x ≠ y by simpa using hd)
      rw [hd] at hkp
      have HN := Lib.hid (compC_take hk HCO.out hlt hkp)
      clear hkp hd
      go_wp2_with fail
      go_quiet (fail)
      go_wp2_with fail
      go_roundw
      case rel => exact ⟨k + 1, by omega, by omega, by go_num, HN.out, HO.out _, HG.out _⟩
      case measure => simp [intOf]; omega
    have eqx : (x.toList == y.toList) = true := by rw [show x = y by simpa using hd]; exact str_eq y
    rw [hd] at hkp
    have HM := Lib.hid (mixC_start HCO.out hlt hkp)
    have HCL := Lib.hid (show (compC default l (k + 1)).length = k by rw [compC_no hkp, HCO.out, List.length_take]; omega)
    clear hkp hd
    have hkc : ¬ c = k := by omega
    have hkd : ¬ k = c := by omega
    have hke : ((k : Int) == (c : Int)) = false := by rw [beq_eq_false_iff_ne]; omega
    have b2' : (k : Int) ≤ (c : Int) := by omega
    go_wp2_with fail
    go_quiet (fail)
    go_wp2_with fail
    clear a0 b0
    go_loopw [3, 5] (fun s3 s5 wr => ∃ q : Nat, 1 ≤ q ∧ k + q ≤ l.length ∧ s5 = .int .i64 q ∧ s3 = .int .i64 (compC default l (k + q)).length ∧ (compC default l (k + q)).length + 1 ≤ k + q ∧ wr.ownsRow B 9 1 (.slice (some ⟨g, 0, none⟩) l.length c) l.length (strs (mixC default l (k + q))) ∧ w.grownBy wr (some g))
      (fun _ s5 _ => l.length - (intOf s5).toNat)
    case atStart => exact ⟨1, Nat.le_refl _, by omega, rfl, by rw [HCL.out], by rw [HCL.out]; omega, by rw [HM.out]; exact HO.out _, HG.out _⟩
    clear HO HG HM HCL eqx HXE HYE
    obtain ⟨q, hq1, hq, rfl, rfl, hle, hown, hgr⟩ := hrel
    have hml := mixC_len (z := (default : ByteArray)) (l := l) (m := k + q) hq
    by_cases hlt2 : k + q < l.length
    · have hst := compC_step (z := (default : ByteArray)) l (k + q)
      have hx : (mixC default l (k + q))[k + q]? = some (l.getD (k + q) default) := by rw [mixC_at (by omega)]; simp [List.getD, hlt2]
      have hy : (mixC default l (k + q))[k + (q - 1)]? = some (l.getD (k + q - 1) default) := by rw [mixC_at (by omega), show k + (q - 1) = k + q - 1 by omega]; simp [List.getD, show k + q - 1 < l.length by omega]
      have a0 := owns_strC hown hx
      have b0 := owns_strC hown hy
      have hkk : (compC default l (k + q)).length < (mixC default l (k + q)).length := by omega
      have o0 := owns_strC hown (List.getElem?_eq_getElem hkk)
      have f0 := hown.frozenAt ((compC default l (k + q)).length)
      have hkp : keepC default l (k + q) = !decide (l.getD (k + q) default = l.getD (k + q - 1) default) := by
        unfold keepC
        rw [show (k + q == 0) = false from by rw [beq_eq_false_iff_ne]; omega, Bool.false_or]
      have HYES := Lib.hid (fun h => mixC_yes (z := (default : ByteArray)) hlt2 h)
      have HNO := Lib.hid (fun h => mixC_no (z := (default : ByteArray)) (l := l) (m := k + q) h)
      have HSET := Lib.hid (fun (x : ByteArray) => show (strs (mixC default l (k + q))).set (compC default l (k + q)).length (.string x) = strs ((mixC default l (k + q)).set (compC default l (k + q)).length x) from by simp [strs, List.map_set])
      have HO := Lib.hid (fun m => show (wr.drewN m).ownsRow B 9 1 (.slice (some ⟨g, 0, none⟩) l.length c) l.length (strs (mixC default l (k + q))) from hown)
      have HG := Lib.hid (fun m => show w.grownBy (wr.drewN m) (some g) from ⟨hgr.os, hgr.tape, hgr.output, hgr.size, hgr.block⟩)
      have HAS := Lib.hid (show k + (q + 1) = k + q + 1 from rfl)
      clear hown hgr hx hy hml
      generalize l.getD (k + q) default = x at *
      generalize l.getD (k + q - 1) default = y at *
      generalize (mixC default l (k + q))[(compC default l (k + q)).length] = old at *
      generalize hmx : mixC default l (k + q) = mx at *
      generalize hkk2 : (compC default l (k + q)).length = kk at *
      have HMX := Lib.hid hmx
      have HKK := Lib.hid hkk2
      clear hmx hkk2
      have q0 : (0 : Int) ≤ (q : Int) := by omega
      have q1 : (q : Int) < ((l.length - k : Nat) : Int) := by omega
      have q2 : (0 : Int) ≤ (q : Int) - 1 := by omega
      have q3 : (q : Int) - 1 < ((l.length - k : Nat) : Int) := by omega
      have q4 : ((q : Int) - 1).toNat = q - 1 := by omega
      have q5 : (0 : Int) ≤ (kk : Int) := by omega
      have q6 : (kk : Int) < (l.length : Int) := by omega
      cases hd : decide (x = y)
      · have eqy := str_ne (show x ≠ y by simpa using hd); have eqx : (x.toList != y.toList) = true := by rw [bne, eqy]; rfl
        rw [hd] at hkp
        have HY := Lib.hid (HYES.out hkp)
        rw [hkp, if_pos (show (!false) = true from rfl)] at hst
        have HST := Lib.hid hst
        have HOS := Lib.hid (fun m => ((HO.out m).stored kk (.string x)).1)
        have HGS := Lib.hid (fun m => show w.grownBy ((wr.drewN m).setCell ⟨g, kk, none⟩ (.string x)) (some g) from (HG.out m).trans (let hk := (Kept.refl (fun q => some g = some q) (wr.drewN m)).setCell (p := ⟨g, kk, none⟩) rfl (.string x); ⟨hk.os, hk.tape, hk.output, hk.size, fun j hj hne => hk.block j hj (fun e => hne e.symm)⟩))
        clear hkp hd hst
        go_wp2_with fail
        go_quiet (fail)
        go_wp2_with fail
        go_roundw
        case rel => exact ⟨q + 1, by omega, by omega, by go_num, by rw [HAS.out, HST.out]; go_num, by rw [HAS.out, HST.out]; omega, by rw [HAS.out, ← HY.out, ← HSET.out]; exact HOS.out _, HGS.out _⟩
        case measure => simp [intOf]; omega
      have eqy : (x.toList == y.toList) = true := by rw [show x = y by simpa using hd]; exact str_eq y
      have eqx : (x.toList != y.toList) = false := by rw [show x = y by simpa using hd, bne_self_eq_false]
      rw [hd] at hkp
      have HY := Lib.hid (HNO.out hkp)
      rw [hkp, if_neg (show ¬ (!true) = true from Bool.false_ne_true)] at hst
      have HST := Lib.hid hst
      clear hkp hd hst
      go_wp2_with fail
      go_quiet (fail)
      go_wp2_with fail
      go_roundw
      case rel => exact ⟨q + 1, by omega, by omega, by go_num, by rw [HAS.out, HST.out]; go_num, by rw [HAS.out, HST.out]; omega, by rw [HAS.out, HY.out]; exact HO.out _, HG.out _⟩
      case measure => simp [intOf]; omega
    have hend : k + q = l.length := by omega
    rw [hend] at hle hown hml
    rw [hend]
    have hkk : (compC default l l.length).length < l.length := by omega
    have htk := mixC_take (z := (default : ByteArray)) (l := l) (m := l.length)
    have hcell : ∀ j, j < (l.length - (compC default l l.length).length) → (wr.cell? ⟨g, (compC default l l.length).length + j, none⟩).isSome = true := fun j hj => by
      have := hown.cellAt ((compC default l l.length).length + j) (by omega)
      rw [this]
      have hl3 : (strs (mixC default l l.length)).length = l.length := by rw [strsC_len, hml]
      rw [List.getElem?_eq_getElem (by omega)]
      rfl
    have hcl : ∀ ty, (Builtin.clear_ #[24] ty #[.slice (some ⟨g, (compC default l l.length).length, none⟩) (l.length - (compC default l l.length).length) (c - (compC default l l.length).length)]).run Tryz.prog wr = .ok (.tuple #[]) (wr.setCells g ((compC default l l.length).length) (Builtin.zeroCells (Value.string ⟨#[]⟩).cells (l.length - (compC default l l.length).length)).toList) := fun ty =>
      run_clear_rows wr _ _ ty _ 1 Tryz.underlying24 Tryz.zeroValue9 rfl (fun v hv => by simp [Value.cells] at hv; subst hv; rfl) g _ _ _ (by omega) (by omega) (fun j hj => hcell j (by omega)) (fun j hj => hown.frozenAt _)
    have ho2 := owns_take (owns_setCells (Builtin.zeroCells (Value.string ⟨#[]⟩).cells (l.length - (compC default l l.length).length)).toList wr ((compC default l l.length).length) _ hown) (k := (compC default l l.length).length) (by omega)
    have htk3 : (strs (mixC default l l.length)).take ((compC default l l.length).length) = strs (compC default l l.length) := by
      have e : mixC default l l.length = compC default l l.length ++ (mixC default l l.length).drop (compC default l l.length).length := by
        conv => lhs; rw [← List.take_append_drop (compC default l l.length).length (mixC default l l.length), htk]
      rw [e, strsC_app, List.take_append_of_le_length (by rw [strsC_len]; omega), List.take_of_length_le (by rw [strsC_len]; omega)]
    rw [Nat.mul_one, setL_take _ _ _ _ (Nat.le_refl _), htk3] at ho2
    have HO2 := Lib.hid ho2
    have hk2 := kept_setCells (S := fun q => some g = some q) (g := g) rfl (Builtin.zeroCells (Value.string ⟨#[]⟩).cells (l.length - (compC default l l.length).length)).toList wr wr ((compC default l l.length).length) (Kept.refl _ _)
    have HG2 := Lib.hid (hgr.trans ⟨hk2.os, hk2.tape, hk2.output, hk2.size, fun j hj hne => hk2.block j hj (fun e => hne e.symm)⟩)
    clear htk hcell ho2 htk3 hk2 hown hgr hml
    generalize (Builtin.zeroCells (Value.string ⟨#[]⟩).cells (l.length - (compC default l l.length).length)).toList = zs at *
    generalize hkk2 : (compC default l l.length).length = kk at *
    have HKK := Lib.hid hkk2
    clear hkk2 hke hkc hkd
    have hkc : ¬ c = kk := by omega
    have hkd : ¬ kk = c := by omega
    have hke : ((kk : Int) == (c : Int)) = false := by rw [beq_eq_false_iff_ne]; omega
    have q5 : (0 : Int) ≤ (kk : Int) := by omega
    have q6 : (kk : Int) ≤ (c : Int) := by omega
    have q7 : (kk : Int) ≤ (l.length : Int) := by omega
    have q8 : ¬ ((q : Int) < ((l.length - k : Nat) : Int)) := by omega
    go_wp2_with fail
    go_ret
    refine ⟨?_, ?_, HG2.out⟩
    · rw [HKK.out]; rfl
    rw [HKK.out]; exact HO2.out
  obtain rfl : k = l.length := by omega
  rw [List.take_length] at hco
  have HCO := Lib.hid hco
  clear hco hown hgr
  go_wp2_with fail
  go_ret
  rw [HCO.out]
  exact ⟨rfl, HO.out 0, HG.out 0⟩

end Go.Proofs.YtijkdpdmclkmlaaGreatDoor
