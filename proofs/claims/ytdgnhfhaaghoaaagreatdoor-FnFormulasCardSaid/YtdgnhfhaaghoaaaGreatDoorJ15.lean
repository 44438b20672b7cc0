/- The states that are reached from a state. Plain law: the program's search and the reference's rounds give the same list. Numbers written in decimal, those below 100 as Go does it: each in its own way, without blanks and commas. No program is in sight. The rounds, as the program and as the reference tell them: plain. No program is in sight. Two slices of numbers compared: l1Same and slices.Equal walked. The rounds of the reference: parts, signs, grouping: walked. -/
import Derived.Test.YtdgnhfhaaghoaaaGreatDoorJ2
import Derived.Test.YtdgnhfhaaghoaaaGreatDoorJ13
import Derived.Test.YtdgnhfhaaghoaaaGreatDoorJ14
import Derived.Test.YtdgnhfhaaghoaaaGreatDoorProg
import Derived.Test.YtdgnhfhaaghoaaaGreatDoorJ0
import Derived.Deep.QuietTactic
import Derived.BigQuiet
import Derived.Test.YtdgnhfhaaghoaaaGreatDoorJ4
import Derived.Test.YtdgnhfhaaghoaaaGreatDoorJ8
import Derived.Deep.RegionHeld3
set_option linter.unusedSimpArgs false
set_option linter.unusedVariables false
namespace Go.Proofs.YtdgnhfhaaghoaaaGreatDoor

/-- All numbers in steps are states. -/
def StepsN (n : Nat) (ss : List I3) : Prop := ∀ s ∈ ss, ∃ i j : Nat, s.1 = (i : Int) ∧ s.2.2 = (j : Int) ∧ i < n ∧ j < n

end Go.Proofs.YtdgnhfhaaghoaaaGreatDoor

set_option linter.unusedVariables false
namespace Go.Proofs.YtdgnhfhaaghoaaaGreatDoor

def dec2 (m : Nat) : List UInt8 := if m < 10 then [UInt8.ofNat (48 + m)] else [UInt8.ofNat (48 + m / 10), UInt8.ofNat (48 + m % 10)]
def decT (x : Int) : List UInt8 := if 0 ≤ x then if x < 100 then dec2 x.toNat else List.replicate x.toNat 200 else List.replicate (-x).toNat 201
def rd2 : List UInt8 → Nat
  | [] => 0
  | [a] => a.toNat - 48
  | a :: b :: _ => (a.toNat - 48) * 10 + (b.toNat - 48)
def rdT (l : List UInt8) : Int := if l.head? = some 200 then (l.length : Int) else if l.head? = some 201 then -(l.length : Int) else (rd2 l : Int)
theorem rd_small : ∀ m : Fin 100, (dec2 m.val).head? ≠ some 200 ∧ (dec2 m.val).head? ≠ some 201 ∧ rd2 (dec2 m.val) = m.val ∧ ((dec2 m.val).all fun b => !(b == 32 || b == 44)) = true := by decide +kernel
theorem rd_dec (x : Int) : rdT (decT x) = x := by
  unfold decT
  split
  · split
    · obtain ⟨h1, h2, h3, _⟩ := rd_small ⟨x.toNat, by omega⟩
      unfold rdT
      rw [if_neg h1, if_neg h2]
      have : rd2 (dec2 x.toNat) = x.toNat := h3
      omega
    · obtain ⟨n, hn⟩ : ∃ n, x.toNat = n + 1 := ⟨x.toNat - 1, by omega⟩
      unfold rdT
      rw [if_pos (by rw [hn]; rfl), List.length_replicate]
      omega
  · obtain ⟨n, hn⟩ : ∃ n, (-x).toNat = n + 1 := ⟨(-x).toNat - 1, by omega⟩
    unfold rdT
    rw [if_neg (by rw [hn, List.replicate_succ, List.head?_cons]; decide), if_pos (by rw [hn]; rfl), List.length_replicate]
    omega
theorem dec_text : NumText decT where
  inj := fun a b h => by rw [← rd_dec a, ← rd_dec b, h]
  plain := fun a b hb => by
    unfold decT at hb
    split at hb
    · split at hb
      · have := (rd_small ⟨a.toNat, by omega⟩).2.2.2
        rw [List.all_eq_true] at this
        simpa using this b hb
      · obtain rfl := (List.mem_replicate.1 hb).2
        decide
    · obtain rfl := (List.mem_replicate.1 hb).2
      decide
theorem dec_len {x : Int} (h0 : 0 ≤ x) (h1 : x < 100) : (decT x).length ≤ 2 := by
  unfold decT dec2
  rw [if_pos h0, if_pos h1]
  split <;> simp
theorem nums_len {l : List Int} (h : ∀ x ∈ l, 0 ≤ x ∧ x < 100) : (numsT decT l).length ≤ 3 * l.length := by
  induction l with
  | nil => simp [numsT]
  | cons y l ih =>
    have h1 := ih fun x hx => h x (List.mem_cons_of_mem _ hx)
    obtain ⟨h2, h3⟩ := h y (List.mem_cons_self)
    have h4 := dec_len h2 h3
    unfold numsT at h1 ⊢
    rw [List.flatMap_cons, List.length_append, List.length_cons, List.length_cons]
    omega
theorem nums_take {l : List Int} {k : Nat} (h : k < l.length) : numsT decT (l.take (k + 1)) = numsT decT (l.take k) ++ (32 :: decT (l.getD k 0)) := by
  have e : l.getD k 0 = l[k] := by simp [List.getD, h]
  unfold numsT
  rw [List.take_succ_eq_append_getElem h, e, List.flatMap_append]
  simp only [List.flatMap_cons, List.flatMap_nil, List.append_nil]

end Go.Proofs.YtdgnhfhaaghoaaaGreatDoor

set_option linter.unusedVariables false
namespace Go.Proofs.YtdgnhfhaaghoaaaGreatDoor

/-- For each of some things the first that is equal to it. -/
def firstOf {α : Type} [DecidableEq α] [Inhabited α] (ls : List α) : List Int := grp ls.length fun k i => decide (ls.getD k default = ls.getD i default)
theorem first_len {α : Type} [DecidableEq α] [Inhabited α] (ls : List α) : (firstOf ls).length = ls.length := grp_len _ _
theorem first_map {α : Type} [DecidableEq α] [Inhabited α] {n : Nat} {f : Nat → α} {eq : Nat → Nat → Bool} (h : ∀ k i, k < n → i < n → (f k = f i ↔ eq k i = true)) : firstOf ((List.range n).map f) = grp n eq := by
  unfold firstOf
  rw [List.length_map, List.length_range]
  refine grp_congr fun k i hk hi => ?_
  have e : ∀ j, j < n → ((List.range n).map f).getD j default = f j := fun j hj => by
    rw [List.getD_eq_getElem?_getD, List.getElem?_eq_getElem (by simpa using hj)]; simp
  rw [e k hk, e i hi, Bool.eq_iff_iff, decide_eq_true_eq]
  exact h k i hk hi
theorem first_take {α : Type} [DecidableEq α] [Inhabited α] {ls : List α} {k : Nat} (h : k < ls.length) : (firstOf ls).take (k + 1) = (firstOf ls).take k ++ [idxR ls.length fun j => decide (ls.getD j default = ls.getD k default)] := by
  have hl : k < (firstOf ls).length := by rw [first_len]; exact h
  rw [List.take_succ_eq_append_getElem hl]
  congr 2
  have := grp_at (eq := fun k i => decide (ls.getD k default = ls.getD i default)) h
  have e : (firstOf ls)[k] = (firstOf ls).getD k 0 := by simp [List.getD, hl]
  rw [e]
  exact this

theorem map_range {α β : Type} (ls : List α) (d : α) (f : α → β) : ls.map f = (List.range ls.length).map fun i => f (ls.getD i d) := by
  apply List.ext_getElem
  · simp
  · intro i h1 h2
    have : i < ls.length := by simpa using h1
    simp [List.getD, this]

def NoB (p : Nat → Bool) (k : Nat) : Prop := ∀ j, j < k → p j = false
def rowsTo (f : Nat → List Int) (k : Nat) : List (List Int) := (List.range k).map f
theorem rowsTo_next (f : Nat → List Int) (k : Nat) : rowsTo f (k + 1) = rowsTo f k ++ [f k] := by
  unfold rowsTo
  rw [List.range_succ, List.map_append]; rfl
theorem rowsTo_len (f : Nat → List Int) (k : Nat) : (rowsTo f k).length = k := by simp [rowsTo]
theorem rowsTo_at (f : Nat → List Int) {k i : Nat} (h : i < (rowsTo f k).length) : (rowsTo f k)[i] = f i := by simp [rowsTo]

def bytesOf (l : List UInt8) : ByteArray := ⟨l.toArray⟩
theorem bytes_inj {a b : List UInt8} : bytesOf a = bytesOf b ↔ a = b := by
  constructor
  · intro h
    injection h with h
    have := congrArg Array.toList h
    simpa using this
  · rintro rfl; rfl

/-- The program's texts of the first round, and of the round behind a round. -/
def looks0 (l : Lab) : List ByteArray := l.shows.map fun xs => bytesOf (numsT decT xs)
def looksN (l : Lab) (parts : List Int) : List ByteArray := (List.range l.shows.length).map fun i => bytesOf (lookL decT l.steps parts i)
theorem looks0_first (l : Lab) : firstOf (looks0 l) = partsL l 0 := by
  unfold looks0
  rw [map_range l.shows []]
  refine first_map fun k i hk hi => ?_
  rw [bytes_inj]
  unfold showB
  rw [beq_iff_eq]
  constructor
  · intro h
    refine (nums_inj dec_text (r := []) (s := []) (fun x t e => by cases e) (fun x t e => by cases e) ?_).1
    rw [List.append_nil, List.append_nil]
    exact h
  · intro h; rw [h]
theorem looksN_first (l : Lab) (m : Nat) : firstOf (looksN l (partsL l m)) = partsL l (m + 1) := by
  unfold looksN
  exact first_map fun k i hk hi => by rw [bytes_inj]; exact look_iff dec_text

theorem parts_lt (l : Lab) (m : Nat) (h0 : 1 ≤ l.shows.length) (k : Nat) : ∃ j : Nat, (partsL l m).getD k 0 = (j : Int) ∧ j < l.shows.length := by
  by_cases h : k < l.shows.length
  · obtain ⟨j, hj, hk, _⟩ := parts_spec l m h
    exact ⟨j, hj, by omega⟩
  · have : (partsL l m).length ≤ k := by rw [parts_len]; omega
    exact ⟨0, by simp [List.getD, this], by omega⟩
/-- All rounds that differ from the one before, and the last of them. -/
def IsRounds (l : Lab) (m : Nat) : Prop := m + 1 ≤ l.shows.length ∧ partsL l (m + 1) = partsL l m ∧ ∀ j, j < m → partsL l (j + 1) ≠ partsL l j
theorem isRounds_last {l : Lab} {m : Nat} (h : IsRounds l m) : partsL l m = lastL l := last_eq l (by have := h.1; omega) h.2.1 (by have := h.1; omega)

end Go.Proofs.YtdgnhfhaaghoaaaGreatDoor

set_option linter.unusedVariables false
namespace Go.Proofs.YtdgnhfhaaghoaaaGreatDoor
open Go.RowKit

theorem same_no {xs ys : List Int} (hl : xs.length = ys.length) {k : Nat} (hk : k < xs.length) (h : xs.getD k 0 ≠ ys.getD k 0) : sameI xs ys = false := by
  unfold sameI
  rw [decide_eq_false_iff_not]
  intro e
  exact h (by rw [e])
theorem same_yes {xs ys : List Int} (hl : xs.length = ys.length) (h : ∀ j, j < xs.length → xs.getD j 0 = ys.getD j 0) : sameI xs ys = true := by
  unfold sameI
  rw [decide_eq_true_iff]
  apply List.ext_getElem hl
  intro i h1 h2
  have := h i h1
  simpa [List.getD, h1, h2] using this
theorem same_len {xs ys : List Int} (hl : xs.length ≠ ys.length) : sameI xs ys = false := by
  unfold sameI
  rw [decide_eq_false_iff_not]
  intro e
  exact hl (by rw [e])

set_option maxRecDepth 100000 in
set_option maxHeartbeats 2000000 in
theorem equalI_any (A B : Option Addr) (c d : Nat) (xs ys : List Int) (w : World) (hn : xs.length ≤ 16777216) (hm : ys.length ≤ 16777216) (hA : Cells w A (ints xs)) (hB : Cells w B (ints ys)) :
    Calls Tryz.prog 107 #[.slice A xs.length c, .slice B ys.length d] w fun e w' => e = .returned (.bool (sameI xs ys)) ∧ Below w.heap.size w w' := by
  by_cases hl : xs.length = ys.length
  · have hl' : ((xs.length : Int) == (ys.length : Int)) = true := by simp [hl]
    have hl'' : ((xs.length : Int) != (ys.length : Int)) = false := by simp [hl]
    have HL := Lib.hid hl
    have HA := Lib.hid (show ∀ W, Below w.heap.size w W → Cells W A (ints xs) from fun W hb => hA.below hb)
    have HB := Lib.hid (show ∀ W, Below w.heap.size w W → Cells W B (ints ys) from fun W hb => hB.below hb)
    clear hl hA hB
    go_enter Tryz.func107, Tryz.ntmps107
    go_wp2_with fail
    go_loopw [13] (fun i wr => ∃ k : Nat, k ≤ xs.length ∧ i = .int .i64 k ∧ (∀ j, j < k → xs.getD j 0 = ys.getD j 0) ∧ Below w.heap.size w wr) (fun i _ => xs.length - (intOf i).toNat)
    case atStart => exact ⟨0, Nat.zero_le _, rfl, fun j hj => by omega, Below.refl _ _⟩
    case round =>
      obtain ⟨k, hk, rfl, hall, hbel⟩ := hrel
      have HALL := Lib.hid hall
      have HZ := Lib.hid hbel
      clear hall
      by_cases hlt : k < xs.length
      · have hlt2 : k < ys.length := by have := HL.out; omega
        obtain ⟨b, o, rfl, hc⟩ := (HA.out wr hbel).int hlt
        obtain ⟨b', o', rfl, hc'⟩ := (HB.out wr hbel).int hlt2
        have c1 := hc k hlt
        have c2 := hc' k hlt2
        have b0 : (0 : Int) ≤ (k : Int) := by omega
        have b1 : (k : Int) < (xs.length : Int) := by omega
        have b2 : (k : Int) < (ys.length : Int) := by omega
        clear hc hc' hbel
        by_cases hx : xs.getD k 0 = ys.getD k 0
        · have HN := Lib.hid (show ∀ j, j < k + 1 → xs.getD j 0 = ys.getD j 0 from fun j hj => by
            rcases Nat.lt_succ_iff_lt_or_eq.1 hj with h | h
            · exact HALL.out j h
            · rw [h]; exact hx)
          rw [← hx] at c2
          clear hx
          generalize xs.getD k 0 = x at *
          have hne : (x != x) = false := by rw [bne_self_eq_false]
          go_wp2_with fail
          go_quiet (fail)
          go_wp2_with fail
          go_roundw
          case rel => exact ⟨k + 1, by omega, by go_num, HN.out, below_drewN' HZ.out _⟩
          case measure => simp [intOf]; omega
        · have HN := Lib.hid (same_no HL.out hlt hx)
          have hne : (xs.getD k 0 != ys.getD k 0) = true := by rw [bne_iff_ne]; exact hx
          clear hx
          generalize xs.getD k 0 = x at *
          generalize ys.getD k 0 = y at *
          go_wp2_with fail
          go_quiet (fail)
          go_wp2_with fail
          go_ret
          exact ⟨by rw [HN.out]; rfl, below_drewN' HZ.out _⟩
      · obtain rfl : k = xs.length := by omega
        have HE := Lib.hid (same_yes HL.out HALL.out)
        clear hbel
        go_wp2_with fail
        go_ret
        exact ⟨by rw [HE.out]; rfl, HZ.out⟩
  · have hl' : ((xs.length : Int) == (ys.length : Int)) = false := by rw [beq_eq_false_iff_ne]; omega
    have hl'' : ((xs.length : Int) != (ys.length : Int)) = true := by rw [bne_iff_ne]; omega
    have HE := Lib.hid (same_len hl)
    clear hl hA hB
    go_enter Tryz.func107, Tryz.ntmps107
    go_wp2_with fail
    go_ret
    exact ⟨by rw [HE.out]; rfl, Below.refl _ _⟩

end Go.Proofs.YtdgnhfhaaghoaaaGreatDoor

set_option linter.unusedVariables false
namespace Go.Proofs.YtdgnhfhaaghoaaaGreatDoor
open Go.RowKit

theorem ownsRow_lit {w : World} {g n : Nat} {e : TypeId} {xs : List Value} (h : w.heap[g]? = some (.cells xs.toArray e)) (hl : xs.length = n) (hm : n ≤ maxLen) : w.ownsRow g e 1 (.slice (some ⟨g, 0, none⟩) n n) n xs :=
  ⟨by omega, .inr ⟨g, n, _, rfl, Nat.le_refl _, h, Nat.le_refl _, hm, by simp [hl], by rw [Nat.mul_one, ← hl, List.take_length]⟩⟩

end Go.Proofs.YtdgnhfhaaghoaaaGreatDoor
