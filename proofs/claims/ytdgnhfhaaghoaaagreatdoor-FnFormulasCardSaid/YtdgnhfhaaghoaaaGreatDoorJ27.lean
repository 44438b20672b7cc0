/- Systems: the program's states in which ways from a state end, walked (of a system, its states' number and its steps alone). append of a whole row of numbers, nil or not, to a row of its own. Where a formula ends: what a well-formed formula looks like, one step. No program is in sight. IsFormula of the program and of the reference, and the statement that they agree: the walk of the law. -/
import Derived.Test.YtdgnhfhaaghoaaaGreatDoorProg
import Derived.Test.YtdgnhfhaaghoaaaGreatDoorJ6
import Derived.Test.YtdgnhfhaaghoaaaGreatDoorJ7
import Derived.Test.YtdgnhfhaaghoaaaGreatDoorJ8
import Derived.Test.YtdgnhfhaaghoaaaGreatDoorJ3
import Derived.Lib.SliceRun
import Derived.Deep.QuietTactic
import Derived.BigQuiet
import Derived.Lib.AppendZeros
import Derived.Test.YtdgnhfhaaghoaaaGreatDoorJ14
import Derived.Test.YtdgnhfhaaghoaaaGreatDoorJ15
import Derived.Sort.OwnSortedInts
import Derived.Test.YtdgnhfhaaghoaaaGreatDoorJ11
import Derived.Test.YtdgnhfhaaghoaaaGreatDoorJ0
set_option linter.unusedSimpArgs false
set_option linter.unusedVariables false
namespace Go.Proofs.YtdgnhfhaaghoaaaGreatDoor
open Go.RowKit

theorem hbel2 {B g : Nat} {a w w' : World} (hb : Below B a w) (hg : w.grownBy w' (some g)) (h : B ≤ g) (hB : B ≤ w.heap.size) : Below B a w' :=
  hb.grown hg hB (fun q hq => by cases hq; exact h)

end Go.Proofs.YtdgnhfhaaghoaaaGreatDoor

set_option linter.unusedVariables false
namespace Go.Proofs.YtdgnhfhaaghoaaaGreatDoor
open Go.RowKit

theorem wpList_append_row {w : World} {ops : Array Oper} {rest : List Oper} {o : Oper} {a : Act} {Q : Exit → Act → World → Prop} (hgd : o.guard = none) (s x : Operand)
    (ho : o.op = .call { callee := .builtin .append, args := #[s, x], argTypes := #[30, 30] })
    (base B2 : Nat) (v : Value) (n : Nat) (xs : List Value) (hs : a.eval s = v) (hown : w.ownsRow base 3 1 v n xs)
    (u : Value) (m : Nat) (ys : List Value) (hx : a.eval x = u) (hu : w.ownsRow B2 3 1 u m ys) (h1 : ∀ y ∈ ys, y.oneCell' = true) (hn : n + m ≤ 1000000000) (hbase : base ≤ w.heap.size)
    (h : ∀ v' w', w'.ownsRow base 3 1 v' (n + m) (xs ++ ys) → Kept (fun q => v.ownBlock = some q) w w' → wpList Tryz.prog ops Q rest (a.put o.dst v') w') : wpList Tryz.prog ops Q (o :: rest) a w := by
  obtain ⟨i0, hi, hz0, hz1, hz2⟩ := info_parts info_ci
  rcases hu.2 with ⟨rfl, rfl⟩ | ⟨g, cap, cur, rfl, _, _, _, _⟩
  · have hy : ys = [] := by have := hu.1; simpa using this
    subst hy
    refine wpList_append_none_cap hgd s x 30 ho base 3 i0 1 Tryz.underlying30 hi v n 0 xs hs hown hx ?_
    exact h v w (by rw [List.append_nil]; exact hown) (Kept.refl _ _)
  · refine wpList_append_own _ hgd s x 30 ho base 3 i0 (.int .i64 0) 1 8 Tryz.underlying30 hi hz0 hz1 hz2 rfl (by decide) v n xs hs hown ⟨g, 0, none⟩ m cap ys hx (by have := hu.1; omega) (fun j y hj => by
      have := hu.cells (g := g) rfl j y hj
      exact this) h1 (by unfold maxLen; omega) (by omega) hbase (fun v' w' h2 h3 _ => h v' w' h2 (kept_of_grown h3))

theorem Kept.newer {S T : Nat → Prop} {w w5 w6 : World} (h : Kept S w w5) (k : Kept T w5 w6) (hT : ∀ q, T q → w.heap.size ≤ q) : Kept S w w6 :=
  ⟨k.os.trans h.os, k.tape.trans h.tape, k.output.trans h.output, Nat.le_trans h.size k.size, fun b hb hn => (k.block b (Nat.lt_of_lt_of_le hb h.size) (fun e => by have := hT b e; omega)).trans (h.block b hb hn)⟩

end Go.Proofs.YtdgnhfhaaghoaaaGreatDoor

set_option linter.unusedVariables false
namespace Go.Proofs.YtdgnhfhaaghoaaaGreatDoor
open Go.RowKit

theorem fEnd_pos {n : Nat} {f : List Int} {p : Int} (h : 0 ≤ fEnd n f p) : p < fEnd n f p ∧ fEnd n f p ≤ f.length := by
  rcases fEnd_bd n f p with h' | h'
  · omega
  · exact h'
theorem fEnd_p0 {n : Nat} {f : List Int} {p : Int} (h : 0 ≤ fEnd n f p) : 0 ≤ p ∧ p < f.length := by
  cases n with
  | zero => simp [fEnd] at h
  | succ n =>
    unfold fEnd at h
    split at h
    · omega
    · omega

/-- What a well-formed formula at k looks like, one step. -/
theorem fEnd_step {n : Nat} {f : List Int} {k : Nat} (h : 0 ≤ fEnd (n + 1) f k) :
    (f.getD k 0 = 0 ∧ fEnd (n + 1) f k = k + 1) ∨
    (f.getD k 0 = 1 ∧ k + 1 < f.length ∧ 0 ≤ f.getD (k + 1) 0 ∧ f.getD (k + 1) 0 ≤ 7 ∧ fEnd (n + 1) f k = k + 2) ∨
    (f.getD k 0 = 2 ∧ fEnd (n + 1) f k = fEnd n f (k + 1)) ∨
    (f.getD k 0 = 3 ∧ 0 ≤ fEnd n f (k + 1) ∧ fEnd (n + 1) f k = fEnd n f (fEnd n f (k + 1))) ∨
    (f.getD k 0 = 4 ∧ k + 1 < f.length ∧ 0 ≤ f.getD (k + 1) 0 ∧ f.getD (k + 1) 0 ≤ 7 ∧ fEnd (n + 1) f k = fEnd n f (k + 2)) := by
  have hk := fEnd_p0 h
  have e := fEnd_eq n f k (by omega)
  rw [e] at h ⊢
  split at h
  · rename_i hx
    rw [if_pos hx]
    exact .inl ⟨by simpa using hx, rfl⟩
  · rename_i hx
    rw [if_neg hx]
    split at h
    · rename_i hy
      rw [if_pos hy]
      split at h
      · rename_i hz
        rw [if_pos hz]
        simp only [Bool.and_eq_true, decide_eq_true_eq] at hz
        have := inB_true hz.2
        exact .inr (.inl ⟨by simpa using hy, by omega, this.1, this.2, rfl⟩)
      · omega
    · rename_i hy
      rw [if_neg hy]
      split at h
      · rename_i hz
        rw [if_pos hz]
        exact .inr (.inr (.inl ⟨by simpa using hz, rfl⟩))
      · rename_i hz
        rw [if_neg hz]
        split at h
        · rename_i hu
          rw [if_pos hu]
          have h' := fEnd_p0 h
          exact .inr (.inr (.inr (.inl ⟨by simpa using hu, h'.1, rfl⟩)))
        · rename_i hu
          rw [if_neg hu]
          split at h
          · rename_i hv
            rw [if_pos hv]
            split at h
            · rename_i hw
              rw [if_pos hw]
              simp only [Bool.and_eq_true, decide_eq_true_eq] at hw
              have := inB_true hw.2
              exact .inr (.inr (.inr (.inr ⟨by simpa using hv, by omega, this.1, this.2, rfl⟩)))
            · omega
          · omega

end Go.Proofs.YtdgnhfhaaghoaaaGreatDoor

set_option linter.unusedVariables false
namespace Go.Proofs.YtdgnhfhaaghoaaaGreatDoor
open Go.RowKit

theorem Ints.of_cells {w : World} {A : Option Addr} {f : List Int} (h : Cells w A (ints f)) : Ints w A f := fun j hj => by
  obtain ⟨b, o, e, hc⟩ := h.int hj
  exact ⟨b, o, e, hc j hj⟩

/-- Whether a list is a formula. -/
def isF (f : List Int) : Bool := inB f.length 1 200 && (fEnd f.length f 0 == (f.length : Int))

set_option maxHeartbeats 400000 in
theorem implIsFormula_any (A : Option Addr) (c : Nat) (f : List Int) (w : World) (hn : f.length ≤ 1048576) (hA : Cells w A (ints f)) :
    Calls Tryz.prog 27 #[.slice A f.length c] w fun e w' => e = .returned (.bool (isF f)) ∧ w = w' := by
  have HF := Lib.hid (formulaEnd_any A c f hn w (.of_cells hA) f.length 0 (by omega) (by omega) (by omega))
  unfold isF
  go_enter Tryz.func27, Tryz.ntmps27
  go_wp2_with (first
    | ((with_reducible refine (within_any ..).mono ?_); rintro e w' ⟨rfl, rfl⟩)
    | ((with_reducible refine HF.out.mono ?_); rintro e w' ⟨rfl, rfl⟩))
  all_goals (go_ret; refine ⟨congrArg (fun z => Ending.returned (.bool z)) ?_, rfl⟩; simp only [*, Bool.false_and, Bool.true_and]; try rfl)

set_option maxHeartbeats 400000 in
theorem l11Formula_any (A : Option Addr) (c : Nat) (f : List Int) (w : World) (hn : f.length ≤ 1048576) (hA : Cells w A (ints f)) :
    Calls Tryz.prog 73 #[.slice A f.length c] w fun e w' => e = .returned (.bool (isF f)) ∧ w = w' := by
  have HF := Lib.hid (l11End_any A c f hn w (.of_cells hA) f.length 0 (by omega) (by omega) (by omega))
  unfold isF
  go_enter Tryz.func73, Tryz.ntmps73
  go_wp2_with (first
    | ((with_reducible refine HF.out.mono ?_); rintro e w' ⟨rfl, rfl⟩))
  all_goals (go_ret; refine ⟨congrArg (fun z => Ending.returned (.bool z)) ?_, rfl⟩)
  all_goals (rw [Bool.eq_iff_iff]; simp only [inB, Bool.and_eq_true, decide_eq_true_eq, beq_iff_eq, Bool.false_eq_true, false_iff]; omega)

set_option maxHeartbeats 400000 in
theorem specIsFormula_any (A : Option Addr) (c : Nat) (f : List Int) (w : World) (hn : f.length ≤ 1048576) (hA : Cells w A (ints f)) :
    Calls Tryz.prog 28 #[.slice A f.length c] w fun e w' => e = .returned (.bool (isF f)) ∧ w = w' := by
  have HF := Lib.hid (l11Formula_any A c f w hn hA)
  go_enter Tryz.func28, Tryz.ntmps28
  go_wp2_with ((with_reducible refine HF.out.mono ?_); rintro e w' ⟨rfl, rfl⟩)
  go_ret
  exact ⟨rfl, rfl⟩

theorem sameI_refl (xs : List Int) : sameI xs xs = true := by simp [sameI]

end Go.Proofs.YtdgnhfhaaghoaaaGreatDoor
