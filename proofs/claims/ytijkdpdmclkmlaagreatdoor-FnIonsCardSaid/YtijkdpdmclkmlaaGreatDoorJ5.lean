/- Names: what program and reference take for a name, walked; both are the same test of the text. The walks of the law package's helpers on []int: copy, compare, mark, ask for the mark. The walks of the two functions that ask whether numbers are strictly ascending, and of slices.IndexFunc, slices.ContainsFunc at a quiet closure. slices.IndexFunc and slices.ContainsFunc: what they answer, for a closure that is known by its contract. -/
import Derived.Test.YtijkdpdmclkmlaaGreatDoorProg
import Derived.Test.YtijkdpdmclkmlaaGreatDoorJ0
import Derived.Test.YtijkdpdmclkmlaaGreatDoorJ4
import Derived.Deep.QuietTactic
import Derived.BigQuiet
import Derived.Handy
import Derived.StillTailTactics
set_option linter.unusedSimpArgs false
set_option linter.unusedVariables false
set_option maxRecDepth 100000
set_option maxHeartbeats 16000000
namespace Go.Proofs.YtijkdpdmclkmlaaGreatDoor
open Go.RowKit
def isLow (b : UInt8) : Bool := decide (97 ≤ b.toNat) && decide (b.toNat ≤ 122)
def lowB (s : ByteArray) : Bool := s.data.toList.all isLow
def nameB (s : ByteArray) : Bool := inB s.size 1 4 && lowB s

def lows : ByteArray := ⟨#[97, 98, 99, 100, 101, 102, 103, 104, 105, 106, 107, 108, 109, 110, 111, 112, 113, 114, 115, 116, 117, 118, 119, 120, 121, 122]⟩

theorem lows_nat : ∀ n : Fin 256, lows.data.toList.contains (UInt8.ofNat n.val) = (decide (97 ≤ n.val) && decide (n.val ≤ 122)) := by decide +kernel
theorem lows_has (b : UInt8) : lows.data.toList.contains b = isLow b := by
  have := lows_nat ⟨b.toNat, b.toNat_lt⟩
  simpa [isLow] using this

theorem dropWhile_nil {α : Type} (p : α → Bool) (l : List α) : l.dropWhile p = [] ↔ l.all p = true := by
  induction l with
  | nil => simp
  | cons a r ih =>
    by_cases h : p a = true
    · simp [List.dropWhile_cons, h, ih]
    simp [List.dropWhile_cons, h]

theorem trim_lows (s : ByteArray) : Lib.trimS s.data.toList lows.data.toList = [] ↔ lowB s = true := by
  have e : (fun x => lows.data.toList.contains x) = isLow := funext lows_has
  unfold lowB Lib.trimS
  unfold Lib.trimRightS Lib.trimLeftS
  rw [e, dropWhile_nil, List.all_reverse, ← List.all_reverse (l := s.data.toList), ← dropWhile_nil isLow s.data.toList.reverse]
  generalize s.data.toList.reverse = l
  constructor
  · intro h
    by_cases hn : l.dropWhile isLow = []
    · exact hn
    exfalso
    have h2 := List.head_dropWhile_not isLow (l := l) hn
    have h3 := List.all_eq_true.1 h _ (List.head_mem hn)
    simp [h3] at h2
  intro h
  rw [h]
  rfl

theorem info_set : (Tryz.prog.info? (Tryz.lays160_ren.t 116)).map (fun i => (i.zero, i.size)) = some (some (.agg (Array.replicate 256 (.bool false))), 256) := by kernel_rfl

theorem trim_any (s : ByteArray) (w : World) (hs : s.size ≤ maxLen) :
    Calls Tryz.prog 198 #[.string s, .string lows] w fun e w' => e = .returned (.string ⟨(Lib.trimS s.data.toList lows.data.toList).toArray⟩) ∧ Below w.heap.size w w' :=
  Any.strings_Trim_laid Tryz.lays160 info_set s lows w (by unfold maxLen at hs; omega) (by decide) (ascii_of_all (by decide +kernel))

set_option maxHeartbeats 400000 in
theorem isName_any (s : ByteArray) (w : World) (hs : s.size ≤ maxLen) :
    Calls Tryz.prog 119 #[.string s] w fun e w' => e = .returned (.bool (nameB s)) ∧ Below w.heap.size w w' := by
  have H := Lib.hid (trim_any s w hs)
  have hT := trim_lows s
  have hs' : s.size ≤ 9223372036854775807 := by unfold maxLen at hs; omega
  clear hs
  unfold nameB
  generalize Lib.trimS s.data.toList lows.data.toList = r at *
  by_cases hin : inB s.size 1 4 = true
  · rw [hin, Bool.true_and]
    by_cases hl : lowB s = true
    · obtain rfl := hT.2 hl
      rw [hl]
      go_enter Tryz.func119, Tryz.ntmps119
      go_wp2_with ((with_reducible refine (within_any ..).mono ?_); rintro e w' ⟨rfl, rfl⟩)
      refine H.out.mono ?_
      rintro e w1 ⟨rfl, hb⟩
      go_wp2
      go_ret
      exact ⟨rfl, hb⟩
    have hl' : lowB s = false := by simpa using hl
    have hr : r ≠ [] := fun e => hl (hT.1 e)
    have he : r.isEmpty = false := by simpa using hr
    clear hT hr hl
    rw [hl']
    go_enter Tryz.func119, Tryz.ntmps119
    go_wp2_with ((with_reducible refine (within_any ..).mono ?_); rintro e w' ⟨rfl, rfl⟩)
    refine H.out.mono ?_
    rintro e w1 ⟨rfl, hb⟩
    go_wp2
    go_ret
    exact ⟨rfl, hb⟩
  have hin' : inB s.size 1 4 = false := by simpa using hin
  clear hin hT
  rw [hin', Bool.false_and]
  go_enter Tryz.func119, Tryz.ntmps119
  go_wp2_with ((with_reducible refine (within_any ..).mono ?_); rintro e w' ⟨rfl, rfl⟩)
  go_ret
  exact ⟨rfl, Below.refl _ _⟩

set_option maxHeartbeats 400000 in
theorem l2Name_any (s : ByteArray) (w : World) (hs : s.size ≤ maxLen) :
    Calls Tryz.prog 201 #[.string s] w fun e w' => e = .returned (.bool (nameB s)) ∧ w = w' := by
  have hs' : s.size ≤ 9223372036854775807 := by unfold maxLen at hs; omega
  clear hs
  go_enter Tryz.func201, Tryz.ntmps201
  go_wp2
  go_loop [3] (fun i => ∃ k : Nat, k ≤ s.size ∧ i = .int .i64 k ∧ (s.data.toList.take k).all isLow = true) (fun i => s.size - (intOf i).toNat)
  case atStart => exact ⟨0, Nat.zero_le _, rfl, rfl⟩
  obtain ⟨k, hk, rfl, hall⟩ := hrel
  by_cases hlt : k < s.size
  · have hlt' : k < s.data.toList.length := by simpa using hlt
    have hb : s.data.toList[k] = s[k] := rfl
    have HF := Lib.hid (show isLow s[k] = false → nameB s = false from fun h => by
      have : lowB s = false := by
        unfold lowB
        rw [List.all_eq_false]
        exact ⟨s.data.toList[k], List.getElem_mem _, by rw [hb, h]; decide⟩
      unfold nameB
      rw [this, Bool.and_false])
    have HG := Lib.hid (show isLow s[k] = true → (s.data.toList.take (k + 1)).all isLow = true from fun h => by
      rw [List.take_succ_eq_append_getElem hlt', List.all_append, hall, hb]
      simp [h])
    clear hall hb
    go_wp2
    all_goals first
      | (go_ret; exact ⟨by rw [HF.out (by simp [isLow]; omega)]; rfl, rfl⟩)
      | skip
    go_round
    case rel => exact ⟨k + 1, by omega, by go_num, HG.out (by simp [isLow]; omega)⟩
    case measure => simp [intOf]; omega
  obtain rfl : k = s.size := by omega
  have he : lowB s = true := by
    unfold lowB
    rw [List.take_of_length_le (by simp)] at hall
    exact hall
  have HE := Lib.hid (show nameB s = inB s.size 1 4 by unfold nameB; rw [he, Bool.and_true])
  clear hall he
  go_wp2_with ((with_reducible refine (l1In_any ..).mono ?_); rintro e w' ⟨rfl, rfl⟩)
  go_ret
  exact ⟨by rw [HE.out]; rfl, rfl⟩

/-- Two lists of numbers, compared. A plain definition: the walk shall not look into it. -/
def sameI (xs ys : List Int) : Bool := decide (xs = ys)

theorem sameI_len {xs ys : List Int} (h : xs.length ≠ ys.length) : sameI xs ys = false := by
  unfold sameI; rw [decide_eq_false_iff_not]; intro e; exact h (by rw [e])
theorem sameI_at {xs ys : List Int} {k : Nat} (h : xs.getD k 0 ≠ ys.getD k 0) : sameI xs ys = false := by
  unfold sameI; rw [decide_eq_false_iff_not]; intro e; exact h (by rw [e])
theorem sameI_all {xs ys : List Int} (hl : xs.length = ys.length) (h : ∀ j, j < xs.length → xs.getD j 0 = ys.getD j 0) : sameI xs ys = true := by
  unfold sameI
  rw [decide_eq_true_iff]
  apply List.ext_getElem hl
  intro i h1 h2
  have := h i h1
  simpa [List.getD, h1, h2] using this

theorem below_drewN' {B : Nat} {a w : World} (h : Below B a w) (n : Nat) : Below B a (w.drewN n) := ⟨h.os, h.tape, h.output, h.size, h.block⟩

def allR (n : Nat) (p : Nat → Bool) : Bool := (List.range n).all p
theorem allR_true {n : Nat} {p : Nat → Bool} (h : ∀ j, j < n → p j = true) : allR n p = true := by
  unfold allR; rw [List.all_eq_true]; intro x hx; exact h x (List.mem_range.1 hx)
theorem allR_false {n k : Nat} {p : Nat → Bool} (hk : k < n) (h : p k = false) : allR n p = false := by
  unfold allR; rw [Bool.eq_false_iff]; intro hh; rw [List.all_eq_true] at hh; have := hh k (List.mem_range.2 hk); rw [h] at this; cases this
theorem all_next {p : Nat → Bool} {k : Nat} (h : ∀ j, j < k → p j = true) (hk : p k = true) : ∀ j, j < k + 1 → p j = true := by
  intro j hj
  rcases Nat.lt_succ_iff_lt_or_eq.1 hj with h' | h'
  · exact h j h'
  rw [h']; exact hk

/-- The first number below n for which p holds, -1 if there is none. -/
def idxR (n : Nat) (p : Nat → Bool) : Int := match (List.range n).find? p with | some k => (k : Int) | none => -1

theorem idxR_none {n : Nat} {p : Nat → Bool} (h : ∀ j, j < n → p j = false) : idxR n p = -1 := by
  have : (List.range n).find? p = none := by rw [List.find?_eq_none]; intro x hx; simp [h x (List.mem_range.1 hx)]
  unfold idxR; rw [this]
theorem idxR_some {n k : Nat} {p : Nat → Bool} (hk : k < n) (h : ∀ j, j < k → p j = false) (hp : p k = true) : idxR n p = (k : Int) := by
  have : (List.range n).find? p = some k := by
    rw [List.find?_range_eq_some]
    exact ⟨hp, List.mem_range.2 hk, fun j hj => by simp [h j hj]⟩
  unfold idxR; rw [this]
def anyR (n : Nat) (p : Nat → Bool) : Bool := (List.range n).any p
theorem idxR_any (n : Nat) (p : Nat → Bool) : decide (0 ≤ idxR n p) = anyR n p := by
  cases h : (List.range n).find? p with
  | none =>
    have h1 : idxR n p = -1 := by unfold idxR; rw [h]
    have h2 : anyR n p = false := by
      unfold anyR
      rw [List.any_eq_false]
      intro x hx
      exact List.find?_eq_none.1 h x hx
    rw [h1, h2]; rfl
  | some k =>
    have h1 : idxR n p = (k : Int) := by unfold idxR; rw [h]
    have h2 : anyR n p = true := by
      unfold anyR
      rw [List.any_eq_true]
      exact ⟨k, List.mem_of_find?_eq_some h, List.find?_some h⟩
    rw [h1, h2]; simp
theorem none_next {p : Nat → Bool} {k : Nat} (h : ∀ j, j < k → p j = false) (hk : p k = false) : ∀ j, j < k + 1 → p j = false := by
  intro j hj
  rcases Nat.lt_succ_iff_lt_or_eq.1 hj with h' | h'
  · exact h j h'
  rw [h']; exact hk

theorem enter_of {P : Program} {F : FuncId} {fn : Func} (hf : P.funcs[F]? = some fn) (hname : (fn.name == "runtime.NumGoroutine") = false) (hb : fn.body.isNone = false) (args : Array Value) (w : World) :
    (callFunc F args).run P w = .ok (.enter F args) w := by
  have h1 : ¬ fn.name = "runtime.NumGoroutine" := by simpa using hname
  have h2 : ¬ fn.body = none := by intro e; rw [e] at hb; cases hb
  simp [callFunc, hf, h1, h2]

end Go.Proofs.YtijkdpdmclkmlaaGreatDoor
