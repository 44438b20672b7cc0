/- The walks of the law package's helpers on []int: copy, compare, mark, ask for the mark. -/
import Derived.Test.YtojdobpmknadhaaDoorProg
import Derived.Test.YtojdobpmknadhaaDoorBase
import Derived.Deep.QuietTactic
import Derived.BigQuiet
set_option linter.unusedVariables false
namespace Go.Proofs.YtojdobpmknadhaaDoor
open Go.RowKit

theorem info_int : (Tryd.prog.info? 3).map (fun i => (i.zero, i.size, i.bytes)) = some (some (.int .i64 0), 1, 8) := by kernel_rfl

set_option maxHeartbeats 1000000 in
theorem toIntS_any (A : Option Addr) (c : Nat) (xs : List Int) (w : World) (hn : xs.length ≤ 16777216) (hA : Cells w A (ints xs)) :
    Calls Tryd.prog 30 #[.slice A xs.length c] w fun e w' => ∃ v, e = .returned v ∧ w'.ownsRow w.heap.size 3 1 v xs.length (ints xs) ∧ Below w.heap.size w w' := by
  obtain ⟨i0, hi, hz0, hz1, hz2⟩ := info_parts info_int
  go_enter Tryd.func30, Tryd.ntmps30
  go_wp2_with (first | (at_make; refine wpList_make_full _ rfl _ _ 27 rfl w.heap.size 3 i0 _ 1 Tryd.underlying27 hi hz0 hz1 _ _ _ _ xs.length rfl rfl rfl rfl (by rw [hz2]; omega) (by unfold maxLen; omega) (Nat.le_refl _) ?_; intro w1 hown hgrow))
  have hz : (madeCells (Value.int .i64 0).cells (xs.length * 1)).toList = fillV (ints xs) (.int .i64 0) 0 := by
    rw [fillV_zero, Nat.mul_one]
    show (madeCells #[_] _).toList = _
    rw [toList_madeCells_one]
    simp [ints]
  rw [hz] at hown
  have hbel : Below w.heap.size w w1 := (Below.refl _ _).grown hgrow (Nat.le_refl _) (by simp)
  clear hz hgrow
  go_loopw [4] (fun i wr => ∃ k : Nat, k ≤ xs.length ∧ i = .int .i64 k ∧ wr.ownsRow w.heap.size 3 1 (.slice (some ⟨w.heap.size, 0, none⟩) xs.length xs.length) xs.length (fillV (ints xs) (.int .i64 0) k) ∧ Below w.heap.size w wr)
    (fun i _ => xs.length - (intOf i).toNat)
  case atStart => exact ⟨0, Nat.zero_le _, rfl, hown, hbel⟩
  case round =>
    clear hown hbel
    obtain ⟨k, hk, rfl, hown, hbel⟩ := hrel
    by_cases hlt : k < xs.length
    · obtain ⟨b, o, rfl, hc⟩ := (hA.below hbel).int hlt
      have hck := hc k hlt
      have hg : wr.cell? ⟨w.heap.size, k, none⟩ = some ((fillV (ints xs) (.int .i64 0) k)[k]'(by rw [fillV_length] <;> simp <;> omega)) := by
        rw [hown.cellAt k (by omega)]
        exact List.getElem?_eq_getElem _
      have hf := hown.frozenAt k
      have hs := hown.stored k (.int .i64 (xs.getD k 0))
      rw [fillV_set (ints xs) _ _ k (by simpa using hlt) (getElem?_ints xs k hlt)] at hs
      obtain ⟨hs1, hs2⟩ := hs
      have hS1 := Lib.hid hs1
      have hS2 := Lib.hid (hbel.grown hs2 hbel.size (by simp))
      clear hs1 hs2 hown hbel hc hA
      generalize xs.getD k 0 = x at *
      generalize (fillV (ints xs) (.int .i64 0) k)[k]'_ = y at hg
      go_wp2
      go_roundw
      case rel => exact ⟨k + 1, by omega, by go_num, hS1.out, hS2.out⟩
      case measure => simp [intOf]; omega
    · obtain rfl : k = xs.length := by omega
      go_wp2
      go_ret
      rw [fillV_all' (by simp)] at hown
      exact ⟨_, rfl, hown, hbel⟩

/-- Two lists of numbers, compared. A plain definition: the walk shall not look into it. -/
def sameI (xs ys : List Int) : Bool := decide (xs = ys)

theorem sameI_len {xs ys : List Int} (h : xs.length ≠ ys.length) : sameI xs ys = false := by
  unfold sameI; rw [decide_eq_false_iff_not]; intro e; exact h (by rw [e])
theorem sameI_at {xs ys : List Int} {k : Nat} (h : xs.getD k 0 ≠ ys.getD k 0) : sameI xs ys = false := by
  unfold sameI; rw [decide_eq_false_iff_not]; intro e; exact h (by rw [e])
theorem sameI_all {xs ys : List Int} (hl : xs.length = ys.length) (h : ∀ j, j < xs.length → xs.getD j 0 = ys.getD j 0) : sameI xs ys = true := by
  unfold sameI
  rw [decide_eq_true_iff]
  apply List.ext_getElem hl
  intro i h1 h2
  have := h i h1
  simpa [List.getD, h1, h2] using this

theorem below_drewN' {B : Nat} {a w : World} (h : Below B a w) (n : Nat) : Below B a (w.drewN n) := ⟨h.os, h.tape, h.output, h.size, h.block⟩

set_option maxHeartbeats 1000000 in
theorem eqIntS_any (A B : Option Addr) (c d : Nat) (xs ys : List Int) (w : World) (hn : xs.length ≤ 16777216) (hm : ys.length ≤ 16777216) (hA : Cells w A (ints xs)) (hB : Cells w B (ints ys)) :
    Calls Tryd.prog 8 #[.slice A xs.length c, .slice B ys.length d] w fun e w' => e = .returned (.bool (sameI xs ys)) ∧ Below w.heap.size w w' := by
  by_cases hl : xs.length = ys.length
  · have hl' : ((xs.length : Int) == (ys.length : Int)) = true := by simp [hl]
    have hl'' : ((xs.length : Int) != (ys.length : Int)) = false := by simp [hl]
    have HL := Lib.hid hl
    clear hl
    go_enter Tryd.func8, Tryd.ntmps8
    go_wp2
    go_loopw [5] (fun i wr => ∃ k : Nat, k ≤ xs.length ∧ i = .int .i64 k ∧ (∀ j, j < k → xs.getD j 0 = ys.getD j 0) ∧ Below w.heap.size w wr)
      (fun i _ => xs.length - (intOf i).toNat)
    case atStart => exact ⟨0, Nat.zero_le _, rfl, fun j hj => by omega, Below.refl _ _⟩
    case round =>
      obtain ⟨k, hk, rfl, hsame, hbel⟩ := hrel
      have HS := Lib.hid hsame
      clear hsame
      by_cases hlt : k < xs.length
      · have hlt2 : k < ys.length := by have := HL.out; omega
        obtain ⟨b, o, rfl, hc⟩ := (hA.below hbel).int hlt
        have hck := hc k hlt
        obtain ⟨b', o', rfl, hc'⟩ := (hB.below hbel).int hlt2
        have hck' := hc' k hlt2
        clear hc hc' hA hB
        by_cases hx : xs.getD k 0 = ys.getD k 0
        · have HX := Lib.hid hx
          have hb0 : (xs.getD k 0 != ys.getD k 0) = false := by rw [hx, bne_self_eq_false]
          clear hx
          obtain ⟨x, ex⟩ : ∃ x, x = xs.getD k 0 := ⟨_, rfl⟩
          obtain ⟨y, ey⟩ : ∃ y, y = ys.getD k 0 := ⟨_, rfl⟩
          rw [← ex] at hck hb0
          rw [← ey] at hck' hb0
          clear ex ey
          go_wp2
          go_quiet (fail)
          go_wp2
          go_roundw
          case rel =>
            refine ⟨k + 1, by omega, by go_num, fun j hj => ?_, below_drewN' hbel _⟩
            rcases Nat.lt_succ_iff_lt_or_eq.1 hj with h | h
            · exact HS.out j h
            · rw [h]; exact HX.out
          case measure => simp [intOf]; omega
        · have E := sameI_at hx
          have HE := Lib.hid E
          have hb0 : (xs.getD k 0 != ys.getD k 0) = true := by rw [bne_iff_ne]; exact hx
          clear hx E
          obtain ⟨x, ex⟩ : ∃ x, x = xs.getD k 0 := ⟨_, rfl⟩
          obtain ⟨y, ey⟩ : ∃ y, y = ys.getD k 0 := ⟨_, rfl⟩
          rw [← ex] at hck hb0
          rw [← ey] at hck' hb0
          clear ex ey
          go_wp2
          go_quiet (fail)
          go_wp2
          go_ret
          exact ⟨by rw [HE.out]; rfl, below_drewN' hbel _⟩
      · obtain rfl : k = xs.length := by omega
        have E := sameI_all HL.out HS.out
        have HE := Lib.hid E
        clear E
        go_wp2
        go_ret
        exact ⟨by rw [HE.out]; rfl, hbel⟩
  · have hl' : ((xs.length : Int) == (ys.length : Int)) = false := by rw [beq_eq_false_iff_ne]; omega
    have hl'' : ((xs.length : Int) != (ys.length : Int)) = true := by rw [bne_iff_ne]; omega
    have HE := Lib.hid (sameI_len hl)
    clear hl
    go_enter Tryd.func8, Tryd.ntmps8
    go_wp2
    go_ret
    exact ⟨by rw [HE.out]; rfl, Below.refl _ _⟩

end Go.Proofs.YtojdobpmknadhaaDoor
