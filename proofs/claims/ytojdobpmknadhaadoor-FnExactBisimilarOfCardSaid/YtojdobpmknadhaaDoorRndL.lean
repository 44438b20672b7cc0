/- The rounds, as the program and as the reference tell them: plain. No program is in sight. -/
import Derived.Test.YtojdobpmknadhaaDoorSignL
import Derived.Test.YtojdobpmknadhaaDoorDecL
set_option linter.unusedVariables false
namespace Go.Proofs.YtojdobpmknadhaaDoor

/-- For each of some things the first that is equal to it. -/
def firstOf {α : Type} [DecidableEq α] [Inhabited α] (ls : List α) : List Int := grp ls.length fun k i => decide (ls.getD k default = ls.getD i default)
theorem first_len {α : Type} [DecidableEq α] [Inhabited α] (ls : List α) : (firstOf ls).length = ls.length := grp_len _ _
theorem first_map {α : Type} [DecidableEq α] [Inhabited α] {n : Nat} {f : Nat → α} {eq : Nat → Nat → Bool} (h : ∀ k i, k < n → i < n → (f k = f i ↔ eq k i = true)) : firstOf ((List.range n).map f) = grp n eq := by
  unfold firstOf
  rw [List.length_map, List.length_range]
  refine grp_congr fun k i hk hi => ?_
  have e : ∀ j, j < n → ((List.range n).map f).getD j default = f j := fun j hj => by
    rw [List.getD_eq_getElem?_getD, List.getElem?_eq_getElem (by simpa using hj)]; simp
  rw [e k hk, e i hi, Bool.eq_iff_iff, decide_eq_true_eq]
  exact h k i hk hi
theorem first_take {α : Type} [DecidableEq α] [Inhabited α] {ls : List α} {k : Nat} (h : k < ls.length) : (firstOf ls).take (k + 1) = (firstOf ls).take k ++ [idxR ls.length fun j => decide (ls.getD j default = ls.getD k default)] := by
  have hl : k < (firstOf ls).length := by rw [first_len]; exact h
  rw [List.take_succ_eq_append_getElem hl]
  congr 2
  have := grp_at (eq := fun k i => decide (ls.getD k default = ls.getD i default)) h
  have e : (firstOf ls)[k] = (firstOf ls).getD k 0 := by simp [List.getD, hl]
  rw [e]
  exact this

theorem map_range {α β : Type} (ls : List α) (d : α) (f : α → β) : ls.map f = (List.range ls.length).map fun i => f (ls.getD i d) := by
  apply List.ext_getElem
  · simp
  · intro i h1 h2
    have : i < ls.length := by simpa using h1
    simp [List.getD, this]

def NoB (p : Nat → Bool) (k : Nat) : Prop := ∀ j, j < k → p j = false
def rowsTo (f : Nat → List Int) (k : Nat) : List (List Int) := (List.range k).map f
theorem rowsTo_next (f : Nat → List Int) (k : Nat) : rowsTo f (k + 1) = rowsTo f k ++ [f k] := by
  unfold rowsTo
  rw [List.range_succ, List.map_append]; rfl
theorem rowsTo_len (f : Nat → List Int) (k : Nat) : (rowsTo f k).length = k := by simp [rowsTo]
theorem rowsTo_at (f : Nat → List Int) {k i : Nat} (h : i < (rowsTo f k).length) : (rowsTo f k)[i] = f i := by simp [rowsTo]

def bytesOf (l : List UInt8) : ByteArray := ⟨l.toArray⟩
theorem bytes_inj {a b : List UInt8} : bytesOf a = bytesOf b ↔ a = b := by
  constructor
  · intro h
    injection h with h
    have := congrArg Array.toList h
    simpa using this
  · rintro rfl; rfl

/-- The program's texts of the first round, and of the round behind a round. -/
def looks0 (l : Lab) : List ByteArray := l.shows.map fun xs => bytesOf (numsT decT xs)
def looksN (l : Lab) (parts : List Int) : List ByteArray := (List.range l.shows.length).map fun i => bytesOf (lookL decT l.steps parts i)
theorem looks0_first (l : Lab) : firstOf (looks0 l) = partsL l 0 := by
  unfold looks0
  rw [map_range l.shows []]
  refine first_map fun k i hk hi => ?_
  rw [bytes_inj]
  unfold showB
  rw [beq_iff_eq]
  constructor
  · intro h
    refine (nums_inj dec_text (r := []) (s := []) (fun x t e => by cases e) (fun x t e => by cases e) ?_).1
    rw [List.append_nil, List.append_nil]
    exact h
  · intro h; rw [h]
theorem looksN_first (l : Lab) (m : Nat) : firstOf (looksN l (partsL l m)) = partsL l (m + 1) := by
  unfold looksN
  exact first_map fun k i hk hi => by rw [bytes_inj]; exact look_iff dec_text

/-- The reference's lists. -/
def signsN (l : Lab) (parts : List Int) : List (List Int) := (List.range l.shows.length).map (signL l.steps parts)
theorem shows_first (l : Lab) : firstOf l.shows = partsL l 0 := by
  have := map_range l.shows [] id
  rw [List.map_id] at this
  rw [this]
  refine (first_map (n := l.shows.length) (eq := showB l) fun k i hk hi => ?_).trans (by rfl)
  unfold showB
  rw [beq_iff_eq]
  rfl
theorem parts_atP (l : Lab) (m : Nat) (k : Int) : 0 ≤ atP (partsL l m) k := by
  unfold atP
  by_cases h : k.toNat < l.shows.length
  · obtain ⟨j, hj, _⟩ := parts_spec l m h
    rw [hj]; omega
  · have : (partsL l m).length ≤ k.toNat := by rw [parts_len]; omega
    simp [List.getD, this]
theorem parts_lt (l : Lab) (m : Nat) (h0 : 1 ≤ l.shows.length) (k : Nat) : ∃ j : Nat, (partsL l m).getD k 0 = (j : Int) ∧ j < l.shows.length := by
  by_cases h : k < l.shows.length
  · obtain ⟨j, hj, hk, _⟩ := parts_spec l m h
    exact ⟨j, hj, by omega⟩
  · have : (partsL l m).length ≤ k := by rw [parts_len]; omega
    exact ⟨0, by simp [List.getD, this], by omega⟩
theorem signsN_first (l : Lab) (m : Nat) (hs : ∀ s ∈ l.steps, 0 ≤ s.2.1 ∧ s.2.1 < 8) : firstOf (signsN l (partsL l m)) = partsL l (m + 1) := by
  unfold signsN
  exact first_map fun k i hk hi => sign_iff hs (parts_atP l m)

/-- The rounds up to a number. -/
def roundsTo (l : Lab) (m : Nat) : List (List Int) := (List.range m).map (partsL l)
theorem roundsTo_next (l : Lab) (m : Nat) : roundsTo l (m + 1) = roundsTo l m ++ [partsL l m] := by
  unfold roundsTo
  rw [List.range_succ, List.map_append]; rfl
theorem roundsTo_len (l : Lab) (m : Nat) : (roundsTo l m).length = m := by simp [roundsTo]
/-- All rounds that differ from the one before, and the last of them. -/
def IsRounds (l : Lab) (m : Nat) : Prop := m + 1 ≤ l.shows.length ∧ partsL l (m + 1) = partsL l m ∧ ∀ j, j < m → partsL l (j + 1) ≠ partsL l j
theorem isRounds_uniq {l : Lab} {a b : Nat} (ha : IsRounds l a) (hb : IsRounds l b) : a = b := by
  rcases Nat.lt_trichotomy a b with h | h | h
  · exact absurd ha.2.1 (hb.2.2 a h)
  · exact h
  · exact absurd hb.2.1 (ha.2.2 b h)
theorem isRounds_last {l : Lab} {m : Nat} (h : IsRounds l m) : partsL l m = lastL l := last_eq l (by have := h.1; omega) h.2.1 (by have := h.1; omega)

end Go.Proofs.YtojdobpmknadhaaDoor
