/- The laws' own helpers over lists of numbers: vInts, vHas, vBig. Slices of pairs: read, copied, compared, searched: the law package's helpers and the library walked. A labelled system and pairs of states drawn: the draw of IsBisimulation. A text spoilt: (*l1Cur).spoilt. Only how long it may get is told. -/
import Derived.Test.YtdgnhfhaaghoaaaGreatDoorProg
import Derived.Test.YtdgnhfhaaghoaaaGreatDoorJ0
import Derived.Test.YtdgnhfhaaghoaaaGreatDoorJ2
import Derived.Test.YtdgnhfhaaghoaaaGreatDoorJ12
import Derived.StillTailTactics
import Derived.Test.YtdgnhfhaaghoaaaGreatDoorJ33
import Derived.Test.YtdgnhfhaaghoaaaGreatDoorJ4
import Derived.Deep.CutBlock
import Derived.Test.YtdgnhfhaaghoaaaGreatDoorJ38
import Derived.Test.YtdgnhfhaaghoaaaGreatDoorJ26
import Derived.Test.YtdgnhfhaaghoaaaGreatDoorJ1
import Derived.Test.YtdgnhfhaaghoaaaGreatDoorJ18
set_option linter.unusedSimpArgs false
set_option linter.unusedVariables false
namespace Go.Proofs.YtdgnhfhaaghoaaaGreatDoor
open Go.RowKit

set_option maxHeartbeats 1000000 in
theorem vInts_any (A B : Option Addr) (c d : Nat) (xs ys : List Int) (w : World) (hn : xs.length ≤ 16777216) (hm : ys.length ≤ 16777216) (hA : Cells w A (ints xs)) (hB : Cells w B (ints ys)) :
    Calls Tryz.prog 13 #[.slice A xs.length c, .slice B ys.length d] w fun e w' => e = .returned (.bool (sameI xs ys)) ∧ Below w.heap.size w w' := by
  by_cases hl : xs.length = ys.length
  · have hl' : ((xs.length : Int) == (ys.length : Int)) = true := by simp [hl]
    have hl'' : ((xs.length : Int) != (ys.length : Int)) = false := by simp [hl]
    have HL := Lib.hid hl
    clear hl
    go_enter Tryz.func13, Tryz.ntmps13
    go_wp2
    go_loopw [5] (fun i wr => ∃ k : Nat, k ≤ xs.length ∧ i = .int .i64 k ∧ (∀ j, j < k → xs.getD j 0 = ys.getD j 0) ∧ Below w.heap.size w wr)
      (fun i _ => xs.length - (intOf i).toNat)
    case atStart => exact ⟨0, Nat.zero_le _, rfl, fun j hj => by omega, Below.refl _ _⟩
    case round =>
      obtain ⟨k, hk, rfl, hsame, hbel⟩ := hrel
      have HS := Lib.hid hsame
      clear hsame
      by_cases hlt : k < xs.length
      · have hlt2 : k < ys.length := by have := HL.out; omega
        obtain ⟨b, o, rfl, hc⟩ := (hA.below hbel).int hlt
        have hck := hc k hlt
        obtain ⟨b', o', rfl, hc'⟩ := (hB.below hbel).int hlt2
        have hck' := hc' k hlt2
        clear hc hc' hA hB
        by_cases hx : xs.getD k 0 = ys.getD k 0
        · have HX := Lib.hid hx
          have hb0 : (xs.getD k 0 != ys.getD k 0) = false := by rw [hx, bne_self_eq_false]
          clear hx
          obtain ⟨x, ex⟩ : ∃ x, x = xs.getD k 0 := ⟨_, rfl⟩
          obtain ⟨y, ey⟩ : ∃ y, y = ys.getD k 0 := ⟨_, rfl⟩
          rw [← ex] at hck hb0
          rw [← ey] at hck' hb0
          clear ex ey
          go_wp2
          go_quiet (fail)
          go_wp2
          go_roundw
          case rel =>
            refine ⟨k + 1, by omega, by go_num, fun j hj => ?_, below_drewN' hbel _⟩
            rcases Nat.lt_succ_iff_lt_or_eq.1 hj with h | h
            · exact HS.out j h
            · rw [h]; exact HX.out
          case measure => simp [intOf]; omega
        · have E := sameI_at hx
          have HE := Lib.hid E
          have hb0 : (xs.getD k 0 != ys.getD k 0) = true := by rw [bne_iff_ne]; exact hx
          clear hx E
          obtain ⟨x, ex⟩ : ∃ x, x = xs.getD k 0 := ⟨_, rfl⟩
          obtain ⟨y, ey⟩ : ∃ y, y = ys.getD k 0 := ⟨_, rfl⟩
          rw [← ex] at hck hb0
          rw [← ey] at hck' hb0
          clear ex ey
          go_wp2
          go_quiet (fail)
          go_wp2
          go_ret
          exact ⟨by rw [HE.out]; rfl, below_drewN' hbel _⟩
      · obtain rfl : k = xs.length := by omega
        have E := sameI_all HL.out HS.out
        have HE := Lib.hid E
        clear E
        go_wp2
        go_ret
        exact ⟨by rw [HE.out]; rfl, hbel⟩
  · have hl' : ((xs.length : Int) == (ys.length : Int)) = false := by rw [beq_eq_false_iff_ne]; omega
    have hl'' : ((xs.length : Int) != (ys.length : Int)) = true := by rw [bne_iff_ne]; omega
    have HE := Lib.hid (sameI_len hl)
    clear hl
    go_enter Tryz.func13, Tryz.ntmps13
    go_wp2
    go_ret
    exact ⟨by rw [HE.out]; rfl, Below.refl _ _⟩

theorem vHas_any (A : Option Addr) (c : Nat) (xs : List Int) (x : Int) (w : World) (hn : xs.length ≤ 16777216) (hA : Cells w A (ints xs)) :
    Calls Tryz.prog 16 #[.slice A xs.length c, .int .i64 x] w fun e w' => e = .returned (.bool (xs.contains x)) ∧ w = w' := by
  have HA := Lib.hid hA
  clear hA
  go_enter Tryz.func16, Tryz.ntmps16
  go_wp2
  go_loopw [5] (fun i wr => ∃ k : Nat, k ≤ xs.length ∧ i = .int .i64 k ∧ (∀ j, j < k → xs.getD j 0 ≠ x) ∧ w = wr)
    (fun i _ => xs.length - (intOf i).toNat)
  case atStart => exact ⟨0, Nat.zero_le _, rfl, fun j hj => by omega, rfl⟩
  case round =>
    obtain ⟨k, hk, rfl, hno, rfl⟩ := hrel
    have HNO := Lib.hid hno
    clear hno
    by_cases hlt : k < xs.length
    · obtain ⟨b, o, rfl, hc⟩ := HA.out.int hlt
      have hck := hc k hlt
      clear hc
      have hxk : xs.getD k 0 = xs[k] := by simp [List.getD, hlt]
      have HXK := Lib.hid hxk
      obtain ⟨y, ey⟩ : ∃ y, y = xs.getD k 0 := ⟨_, rfl⟩
      rw [← ey] at hck
      have HY := Lib.hid ey
      clear ey hxk
      cases hb : (y == x)
      · have hne : y ≠ x := by simpa using hb
        have HNE := Lib.hid hne
        clear hne
        go_wp2
        go_roundw
        case rel =>
          refine ⟨k + 1, by omega, by go_num, fun j hj => ?_, by first | rfl | trivial⟩
          rcases Nat.lt_succ_iff_lt_or_eq.1 hj with h | h
          · exact HNO.out j h
          · rw [h, ← HY.out]; exact HNE.out
        case measure => simp [intOf]; omega
      · have he : y = x := by simpa using hb
        have HE := Lib.hid (show xs.contains x = true from by
          rw [List.contains_iff_mem, ← he, HY.out, HXK.out]
          exact List.getElem_mem hlt)
        clear he
        go_wp2
        go_ret
        exact ⟨by rw [HE.out]; rfl, rfl⟩
    · obtain rfl : k = xs.length := by omega
      have HE := Lib.hid (show xs.contains x = false from by
        rw [Bool.eq_false_iff]
        intro h
        rw [List.contains_iff_mem] at h
        obtain ⟨i, hi, e⟩ := List.getElem_of_mem h
        exact HNO.out i hi (by simp [List.getD, hi, e]))
      go_wp2
      go_ret
      exact ⟨by rw [HE.out]; rfl, rfl⟩

theorem vBig_any (A : Option Addr) (n c : Nat) (w : World) (hn : n ≤ maxLen) :
    Calls Tryz.prog 9 #[.slice A n c] w fun e w' => e = .returned (.bool (decide (65536 < n))) ∧ w = w' := by
  by_cases h : 65536 < n
  · have h' : (65536 : Int) < (n : Int) := by omega
    go_enter Tryz.func9, Tryz.ntmps9
    go_wp2
    go_ret
    exact ⟨by simp [h], rfl⟩
  · have h' : ¬ (65536 : Int) < (n : Int) := by omega
    go_enter Tryz.func9, Tryz.ntmps9
    go_wp2
    go_ret
    exact ⟨by simp [h], rfl⟩

end Go.Proofs.YtdgnhfhaaghoaaaGreatDoor

set_option linter.unusedVariables false
namespace Go.Proofs.YtdgnhfhaaghoaaaGreatDoor
open Go.RowKit

abbrev I2 := Int × Int
end Go.Proofs.YtdgnhfhaaghoaaaGreatDoor

set_option linter.unusedVariables false
namespace Go.Proofs.YtdgnhfhaaghoaaaGreatDoor
open Go.RowKit

/-- Results: a struct in a cell, and a slot. -/
theorem results_cell_row2 {P : Program} {fn : Func} {p q : Tmp} {ty : TypeId} (h : fn.results = #[.cell p ty, .tmp q]) (tmps : Array Value) (w : World) (g : Nat) (t : TypeId) (cs : Array Value) (fr : Nat × Nat) (d : TypeDesc)
    (hp : tmps.getD p undef = .pointer (some ⟨g, 0, none⟩)) (hg : w.heap[g]? = some (.cells cs t fr))
    (hu : P.underlying ty = some d) (hd : (match d with | .struct _ | .array _ _ => true | _ => false) = true) (hi : (P.info? ty).map (·.size) = some cs.size) :
    (results fn tmps).run P w = .ok (.tuple #[.agg cs, tmps.getD q undef]) w := by
  have hp' : tmps[p]?.getD undef = .pointer (some ⟨g, 0, none⟩) := by simpa using hp
  simp [results, h, hp', asAddr, run_loadVar_row w g t ty cs fr d hg hu hd hi]

section
variable {wz W W' : World} {p c K : Nat} {A : Option Addr} {bs : List Int} {v LV : Value} {L : List Int} {ps : List I2}
end

end Go.Proofs.YtdgnhfhaaghoaaaGreatDoor

set_option linter.unusedVariables false
namespace Go.Proofs.YtdgnhfhaaghoaaaGreatDoor
open Go.RowKit

set_option maxRecDepth 100000 in
set_option maxHeartbeats 4000000 in
theorem spoilt_any (p : Nat) (A : Option Addr) (bs : List Int) (c K : Nat) (t u : ByteArray) (w : World) (hC : Cur w p A bs c K) (hK : K ≤ 1000000000000) (ht : t.size ≤ 1000000) (hu1 : 1 ≤ u.size) (hu2 : u.size ≤ 1000) :
    Calls Tryz.prog 80 #[.pointer (some ⟨p, 0, none⟩), .string t, .string u] w fun e w' => ∃ s : ByteArray, e = .returned (.string s) ∧ s.size ≤ t.size + 1000 ∧ Cur w' p A bs c (K + 6) ∧ Kept (fun q => q = p) w w' := by
  have HC := Lib.hid hC
  clear hC
  cases he : t.toList.isEmpty
  · have h0 : 1 ≤ t.size := by
      rcases Nat.eq_zero_or_pos t.size with h | h
      · exfalso
        have e : t = ⟨#[]⟩ := by
          obtain ⟨d⟩ := t
          have : d = #[] := Array.eq_empty_of_size_eq_zero h
          rw [this]
        rw [e] at he
        exact absurd he (by rw [show (⟨#[]⟩ : ByteArray).toList = [] from by unfold ByteArray.toList ByteArray.toList.loop; rfl]; simp)
      · exact h
    go_enter Tryz.func80, Tryz.ntmps80
    go_wp2_with fail
    (with_reducible refine (pick_any p A bs c K (t.size : Int) w HC.out (by omega) (by omega)).mono ?_)
    rintro e w1 ⟨x, rfl, hx0, hx1, hC1, hK1⟩
    have hx1 : x < t.size := hx1 (by omega)
    obtain ⟨i, rfl⟩ : ∃ i : Nat, x = (i : Int) := Int.eq_ofNat_of_zero_le hx0
    have hi : i < t.size := by omega
    have HC1 := Lib.hid hC1
    have HK1 := Lib.hid hK1
    clear hC1 hK1 hx0 hx1
    go_wp2_with fail
    (with_reducible refine (pick_any p A bs c (K + 2) (u.size : Int) w1 HC1.out (by omega) (by omega)).mono ?_)
    rintro e w2 ⟨x, rfl, hx0, hx1, hC2, hK2⟩
    have hx1 : x < u.size := hx1 (by omega)
    obtain ⟨j, rfl⟩ : ∃ j : Nat, x = (j : Int) := Int.eq_ofNat_of_zero_le hx0
    have hj : j < u.size := by omega
    have HC2 := Lib.hid hC2
    have HK2 := Lib.hid (HK1.out.trans hK2)
    clear hC2 hK2 hx0 hx1
    have huj : (u.extract j u.size).size = u.size - j := by simp
    have h1j : 1 ≤ u.size - j := by omega
    go_wp2_with fail
    (with_reducible refine (pick_any p A bs c (K + 4) 3 w2 HC2.out (by omega) (by omega)).mono ?_)
    rintro e w3 ⟨y, rfl, hy0, hy1, hC3, hK3⟩
    have HC3 := Lib.hid hC3
    have HK3 := Lib.hid (HK2.out.trans hK3)
    clear hC3 hK3 hy1
    rcases (show y = 0 ∨ y = 1 ∨ 2 ≤ y by omega) with rfl | rfl | hy
    · go_wp2_with fail
      go_quiet (fail)
      go_wp2_with fail
      go_ret
      exact ⟨_, rfl, by simp; omega, HC3.out.below (below_drewN' (Below.refl _ _) _), HK3.out.below' (below_drewN' (Below.refl _ _) _)⟩
    · go_wp2_with fail
      go_quiet (fail)
      go_wp2_with fail
      go_ret
      exact ⟨_, rfl, by simp; omega, HC3.out.below (below_drewN' (Below.refl _ _) _), HK3.out.below' (below_drewN' (Below.refl _ _) _)⟩
    · have n0 : (y == 0) = false := by rw [beq_eq_false_iff_ne]; omega
      have n1 : (y == 1) = false := by rw [beq_eq_false_iff_ne]; omega
      go_wp2_with fail
      go_quiet (fail)
      go_wp2_with fail
      go_ret
      exact ⟨_, rfl, by simp; omega, HC3.out.below (below_drewN' (Below.refl _ _) _), HK3.out.below' (below_drewN' (Below.refl _ _) _)⟩
  · go_enter Tryz.func80, Tryz.ntmps80
    go_wp2_with fail
    go_ret
    exact ⟨_, rfl, by simp; omega, HC.out.mono (by omega), Kept.refl _ _⟩

end Go.Proofs.YtdgnhfhaaghoaaaGreatDoor
