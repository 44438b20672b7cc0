/- Words for memory: a slice that reads as a list of cells, and how readings and owned rows are kept. No program is in sight. The walks of the law package's helpers on []int: copy, compare, mark, ask for the mark. -/
import Derived.WalkKit
import Derived.WalkSpells
import Derived.WalkLawsBesides
import Derived.Lib.Hide
import Derived.Below
import Derived.Test.YtdgnhfhaaghoaaaGreatDoorProg
import Derived.Deep.QuietTactic
import Derived.BigQuiet
set_option linter.unusedVariables false
namespace Go.Proofs.YtdgnhfhaaghoaaaGreatDoor
open Go.RowKit

/-- The slice with address A reads as the cells xs. Nil and empty slices: xs = []. -/
def Cells (w : World) (A : Option Addr) (xs : List Value) : Prop :=
  ∀ j u, xs[j]? = some u → ∃ b o, A = some ⟨b, o, none⟩ ∧ w.cell? ⟨b, o + j, none⟩ = some u

abbrev ints (xs : List Int) : List Value := xs.map (Value.int .i64)

section
variable {w w' : World} {A : Option Addr} {xs : List Value} {base : Nat} {e : TypeId} {size : Nat} {v : Value} {n c : Nat}

theorem Cells.nil (w : World) (A : Option Addr) : Cells w A [] := fun j u h => by simp at h

theorem Cells.keep (h : Cells w A xs) (hk : ∀ p : Addr, ∀ u, w.cell? p = some u → w'.cell? p = some u) : Cells w' A xs := fun j u hj => by
  obtain ⟨b, o, e, hc⟩ := h j u hj
  exact ⟨b, o, e, hk _ _ hc⟩

theorem cell_below {B : Nat} (hb : Below B w w') {p : Addr} {u : Value} (h : w.cell? p = some u) (hp : p.block < B) : w'.cell? p = some u := (hb.cell hp).trans h

theorem Cells.below (h : Cells w A xs) (hb : Below w.heap.size w w') : Cells w' A xs :=
  h.keep fun p u hc => cell_below hb hc (World.block_lt_of_cell? w p hc)

theorem Cells.alloc (h : Cells w A xs) (o : Obj) : Cells (w.alloc o) A xs := h.below ((Below.refl _ _).alloc (Nat.le_refl _) o)
theorem Cells.drew (h : Cells w A xs) : Cells w.drew A xs := h

/-- Where the first cell is: one address for all of them. -/
theorem Cells.at_ (h : Cells w A xs) {k : Nat} (hk : k < xs.length) : ∃ b o, A = some ⟨b, o, none⟩ ∧ ∀ j u, xs[j]? = some u → w.cell? ⟨b, o + j, none⟩ = some u := by
  obtain ⟨b, o, rfl, _⟩ := h k _ (List.getElem?_eq_getElem hk)
  refine ⟨b, o, rfl, fun j u hj => ?_⟩
  obtain ⟨b', o', e, hc⟩ := h j u hj
  cases e
  exact hc

theorem Cells.of_owns (h : w.ownsRow base e size (.slice A n c) n xs) : Cells w A xs := fun j u hj => by
  obtain ⟨hl, h⟩ := h
  rcases h with ⟨e, hn⟩ | ⟨g, cap, cur, e, hb, hg, h1, h2, h3, h4⟩
  · subst hn
    simp at hl
    subst hl
    simp at hj
  · cases e
    refine ⟨g, 0, rfl, ?_⟩
    rw [Nat.zero_add, cell_of_row w g j cur _ _ hg]
    have := (List.getElem?_eq_some_iff.1 hj).1
    rw [← h4, List.getElem?_take, if_pos (by omega)] at hj
    simpa using hj

theorem owns_form (h : w.ownsRow base e size v n xs) : ∃ A c, v = .slice A n c ∧ w.ownsRow base e size (.slice A n c) n xs := by
  rcases h.2 with ⟨rfl, rfl⟩ | ⟨g, cap, cur, rfl, _⟩
  · exact ⟨none, 0, rfl, h⟩
  · exact ⟨_, _, rfl, h⟩

theorem owns_below {B : Nat} (h : w.ownsRow base e size v n xs) (hb : Below B w w') (hB : w.heap.size ≤ B) : w'.ownsRow base e size v n xs := by
  refine ⟨h.1, ?_⟩
  rcases h.2 with hn | ⟨g, cap, cur, rfl, hbg, hg, rest⟩
  · exact .inl hn
  · have := (Array.getElem?_eq_some_iff.1 hg).1
    exact .inr ⟨g, cap, cur, rfl, hbg, by rw [hb.block g (by omega)]; exact hg, rest⟩

theorem owns_mono {b' : Nat} (h : w.ownsRow base e size v n xs) (hb : b' ≤ base) : w.ownsRow b' e size v n xs := by
  refine ⟨h.1, ?_⟩
  rcases h.2 with hn | ⟨g, cap, cur, rfl, hbg, rest⟩
  · exact .inl hn
  · exact .inr ⟨g, cap, cur, rfl, by omega, rest⟩
end

/-- What a loop has copied into a row of zeros after k rounds. -/
def fillV {α : Type} (xs : List α) (z : α) (k : Nat) : List α := xs.take k ++ List.replicate (xs.length - k) z

theorem fillV_zero {α : Type} (xs : List α) (z : α) : fillV xs z 0 = List.replicate xs.length z := by simp [fillV]
theorem fillV_all {α : Type} (xs : List α) (z : α) : fillV xs z xs.length = xs := by simp [fillV]
theorem fillV_all' {α : Type} {xs : List α} {z : α} {k : Nat} (h : xs.length = k) : fillV xs z k = xs := by subst h; exact fillV_all xs z
theorem fillV_length {α : Type} (xs : List α) (z : α) (k : Nat) (h : k ≤ xs.length) : (fillV xs z k).length = xs.length := by simp [fillV]; omega
theorem fillV_set {α : Type} (xs : List α) (z x : α) (k : Nat) (h : k < xs.length) (hx : xs[k]? = some x) : (fillV xs z k).set k x = fillV xs z (k + 1) := by
  have e1 : xs.take (k + 1) = xs.take k ++ [x] := by
    rw [List.take_succ_eq_append_getElem h]
    rw [List.getElem?_eq_getElem h] at hx
    injection hx with hx
    rw [hx]
  have e2 : xs.length - k = (xs.length - (k + 1)) + 1 := by omega
  unfold fillV
  rw [e1, e2, List.replicate_succ, List.set_append_right _ _ (by rw [List.length_take]; omega)]
  have e3 : k - (xs.take k).length = 0 := by rw [List.length_take]; omega
  rw [e3]
  simp

theorem getElem?_ints (xs : List Int) (j : Nat) (h : j < xs.length) : (ints xs)[j]? = some (.int .i64 (xs.getD j 0)) := by
  simp [ints, h]

theorem Cells.int {w : World} {A : Option Addr} {xs : List Int} (h : Cells w A (ints xs)) {k : Nat} (hk : k < xs.length) :
    ∃ b o, A = some ⟨b, o, none⟩ ∧ ∀ j, j < xs.length → w.cell? ⟨b, o + j, none⟩ = some (.int .i64 (xs.getD j 0)) := by
  obtain ⟨b, o, e, hc⟩ := h.at_ (k := k) (by simpa [ints] using hk)
  exact ⟨b, o, e, fun j hj => hc j _ (getElem?_ints xs j hj)⟩

theorem str_ne {x y : ByteArray} (h : x ≠ y) : (x.toList == y.toList) = false := by
  rw [beq_eq_false_iff_ne]
  intro e
  rw [ByteArray.toList_eq, ByteArray.toList_eq] at e
  exact h (ByteArray.ext (Array.toList_inj.1 e))

theorem str_eq (x : ByteArray) : (x.toList == x.toList) = true := by rw [beq_self_eq_true]

end Go.Proofs.YtdgnhfhaaghoaaaGreatDoor

set_option linter.unusedVariables false
namespace Go.Proofs.YtdgnhfhaaghoaaaGreatDoor
open Go.RowKit

theorem info_int : (Tryz.prog.info? 3).map (fun i => (i.zero, i.size, i.bytes)) = some (some (.int .i64 0), 1, 8) := by kernel_rfl

set_option maxHeartbeats 1000000 in
theorem toIntS_any (A : Option Addr) (c : Nat) (xs : List Int) (w : World) (hn : xs.length ≤ 16777216) (hA : Cells w A (ints xs)) :
    Calls Tryz.prog 141 #[.slice A xs.length c] w fun e w' => ∃ v, e = .returned v ∧ w'.ownsRow w.heap.size 3 1 v xs.length (ints xs) ∧ Below w.heap.size w w' := by
  obtain ⟨i0, hi, hz0, hz1, hz2⟩ := info_parts info_int
  go_enter Tryz.func141, Tryz.ntmps141
  go_wp2_with (first | (at_make; refine wpList_make_full _ rfl _ _ 30 rfl w.heap.size 3 i0 _ 1 Tryz.underlying30 hi hz0 hz1 _ _ _ _ xs.length rfl rfl rfl rfl (by rw [hz2]; omega) (by unfold maxLen; omega) (Nat.le_refl _) ?_; intro w1 hown hgrow))
  have hz : (madeCells (Value.int .i64 0).cells (xs.length * 1)).toList = fillV (ints xs) (.int .i64 0) 0 := by
    rw [fillV_zero, Nat.mul_one]
    show (madeCells #[_] _).toList = _
    rw [toList_madeCells_one]
    simp [ints]
  rw [hz] at hown
  have hbel : Below w.heap.size w w1 := (Below.refl _ _).grown hgrow (Nat.le_refl _) (by simp)
  clear hz hgrow
  go_loopw [4] (fun i wr => ∃ k : Nat, k ≤ xs.length ∧ i = .int .i64 k ∧ wr.ownsRow w.heap.size 3 1 (.slice (some ⟨w.heap.size, 0, none⟩) xs.length xs.length) xs.length (fillV (ints xs) (.int .i64 0) k) ∧ Below w.heap.size w wr)
    (fun i _ => xs.length - (intOf i).toNat)
  case atStart => exact ⟨0, Nat.zero_le _, rfl, hown, hbel⟩
  case round =>
    clear hown hbel
    obtain ⟨k, hk, rfl, hown, hbel⟩ := hrel
    by_cases hlt : k < xs.length
    · obtain ⟨b, o, rfl, hc⟩ := (hA.below hbel).int hlt
      have hck := hc k hlt
      have hg : wr.cell? ⟨w.heap.size, k, none⟩ = some ((fillV (ints xs) (.int .i64 0) k)[k]'(by rw [fillV_length] <;> simp <;> omega)) := by
        rw [hown.cellAt k (by omega)]
        exact List.getElem?_eq_getElem _
      have hf := hown.frozenAt k
      have hs := hown.stored k (.int .i64 (xs.getD k 0))
      rw [fillV_set (ints xs) _ _ k (by simpa using hlt) (getElem?_ints xs k hlt)] at hs
      obtain ⟨hs1, hs2⟩ := hs
      have hS1 := Lib.hid hs1
      have hS2 := Lib.hid (hbel.grown hs2 hbel.size (by simp))
      clear hs1 hs2 hown hbel hc hA
      generalize xs.getD k 0 = x at *
      generalize (fillV (ints xs) (.int .i64 0) k)[k]'_ = y at hg
      go_wp2
      go_roundw
      case rel => exact ⟨k + 1, by omega, by go_num, hS1.out, hS2.out⟩
      case measure => simp [intOf]; omega
    · obtain rfl : k = xs.length := by omega
      go_wp2
      go_ret
      rw [fillV_all' (by simp)] at hown
      exact ⟨_, rfl, hown, hbel⟩

/-- Two lists of numbers, compared. A plain definition: the walk shall not look into it. -/
def sameI (xs ys : List Int) : Bool := decide (xs = ys)

theorem sameI_len {xs ys : List Int} (h : xs.length ≠ ys.length) : sameI xs ys = false := by
  unfold sameI; rw [decide_eq_false_iff_not]; intro e; exact h (by rw [e])
theorem sameI_at {xs ys : List Int} {k : Nat} (h : xs.getD k 0 ≠ ys.getD k 0) : sameI xs ys = false := by
  unfold sameI; rw [decide_eq_false_iff_not]; intro e; exact h (by rw [e])
theorem sameI_all {xs ys : List Int} (hl : xs.length = ys.length) (h : ∀ j, j < xs.length → xs.getD j 0 = ys.getD j 0) : sameI xs ys = true := by
  unfold sameI
  rw [decide_eq_true_iff]
  apply List.ext_getElem hl
  intro i h1 h2
  have := h i h1
  simpa [List.getD, h1, h2] using this

theorem below_drewN' {B : Nat} {a w : World} (h : Below B a w) (n : Nat) : Below B a (w.drewN n) := ⟨h.os, h.tape, h.output, h.size, h.block⟩

set_option maxHeartbeats 1000000 in
theorem eqIntS_any (A B : Option Addr) (c d : Nat) (xs ys : List Int) (w : World) (hn : xs.length ≤ 16777216) (hm : ys.length ≤ 16777216) (hA : Cells w A (ints xs)) (hB : Cells w B (ints ys)) :
    Calls Tryz.prog 19 #[.slice A xs.length c, .slice B ys.length d] w fun e w' => e = .returned (.bool (sameI xs ys)) ∧ Below w.heap.size w w' := by
  by_cases hl : xs.length = ys.length
  · have hl' : ((xs.length : Int) == (ys.length : Int)) = true := by simp [hl]
    have hl'' : ((xs.length : Int) != (ys.length : Int)) = false := by simp [hl]
    have HL := Lib.hid hl
    clear hl
    go_enter Tryz.func19, Tryz.ntmps19
    go_wp2
    go_loopw [5] (fun i wr => ∃ k : Nat, k ≤ xs.length ∧ i = .int .i64 k ∧ (∀ j, j < k → xs.getD j 0 = ys.getD j 0) ∧ Below w.heap.size w wr)
      (fun i _ => xs.length - (intOf i).toNat)
    case atStart => exact ⟨0, Nat.zero_le _, rfl, fun j hj => by omega, Below.refl _ _⟩
    case round =>
      obtain ⟨k, hk, rfl, hsame, hbel⟩ := hrel
      have HS := Lib.hid hsame
      clear hsame
      by_cases hlt : k < xs.length
      · have hlt2 : k < ys.length := by have := HL.out; omega
        obtain ⟨b, o, rfl, hc⟩ := (hA.below hbel).int hlt
        have hck := hc k hlt
        obtain ⟨b', o', rfl, hc'⟩ := (hB.below hbel).int hlt2
        have hck' := hc' k hlt2
        clear hc hc' hA hB
        by_cases hx : xs.getD k 0 = ys.getD k 0
        · have HX := Lib.hid hx
          have hb0 : (xs.getD k 0 != ys.getD k 0) = false := by rw [hx, bne_self_eq_false]
          clear hx
          obtain ⟨x, ex⟩ : ∃ x, x = xs.getD k 0 := ⟨_, rfl⟩
          obtain ⟨y, ey⟩ : ∃ y, y = ys.getD k 0 := ⟨_, rfl⟩
          rw [← ex] at hck hb0
          rw [← ey] at hck' hb0
          clear ex ey
          go_wp2
          go_quiet (fail)
          go_wp2
          go_roundw
          case rel =>
            refine ⟨k + 1, by omega, by go_num, fun j hj => ?_, below_drewN' hbel _⟩
            rcases Nat.lt_succ_iff_lt_or_eq.1 hj with h | h
            · exact HS.out j h
            · rw [h]; exact HX.out
          case measure => simp [intOf]; omega
        · have E := sameI_at hx
          have HE := Lib.hid E
          have hb0 : (xs.getD k 0 != ys.getD k 0) = true := by rw [bne_iff_ne]; exact hx
          clear hx E
          obtain ⟨x, ex⟩ : ∃ x, x = xs.getD k 0 := ⟨_, rfl⟩
          obtain ⟨y, ey⟩ : ∃ y, y = ys.getD k 0 := ⟨_, rfl⟩
          rw [← ex] at hck hb0
          rw [← ey] at hck' hb0
          clear ex ey
          go_wp2
          go_quiet (fail)
          go_wp2
          go_ret
          exact ⟨by rw [HE.out]; rfl, below_drewN' hbel _⟩
      · obtain rfl : k = xs.length := by omega
        have E := sameI_all HL.out HS.out
        have HE := Lib.hid E
        clear E
        go_wp2
        go_ret
        exact ⟨by rw [HE.out]; rfl, hbel⟩
  · have hl' : ((xs.length : Int) == (ys.length : Int)) = false := by rw [beq_eq_false_iff_ne]; omega
    have hl'' : ((xs.length : Int) != (ys.length : Int)) = true := by rw [bne_iff_ne]; omega
    have HE := Lib.hid (sameI_len hl)
    clear hl
    go_enter Tryz.func19, Tryz.ntmps19
    go_wp2
    go_ret
    exact ⟨by rw [HE.out]; rfl, Below.refl _ _⟩

end Go.Proofs.YtdgnhfhaaghoaaaGreatDoor
