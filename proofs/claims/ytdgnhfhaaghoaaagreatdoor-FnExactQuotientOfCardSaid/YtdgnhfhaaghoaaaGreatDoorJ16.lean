/- Labelled systems: silent ways. Plain law: the reference's tables and the program's searches tell the same ways, and the same saturated system. -/
import Derived.Test.YtdgnhfhaaghoaaaGreatDoorJ14
import Derived.Test.YtdgnhfhaaghoaaaGreatDoorJ15
set_option linter.unusedVariables false
namespace Go.Proofs.YtdgnhfhaaghoaaaGreatDoor

/-- The silent steps. -/
def silS (ss : List I3) : List I3 := ss.filter fun s => s.2.1 == 0
def wInit (ss : List I3) (i j : Nat) : Bool := (i == j) || (silS ss).any fun s => (s.1 == (i : Int)) && (s.2.2 == (j : Int))
def wRound (k : Nat) (f : Nat → Nat → Bool) (i j : Nat) : Bool := f i j || (f i k && f k j)
def wAll (f : Nat → Nat → Bool) : Nat → Nat → Nat → Bool
  | 0 => f
  | m + 1 => wRound m (wAll f m)

def ThroughT (m : Nat) (f : Nat → Nat → Bool) : Prop := ∀ c, c < m → ∀ i j, f i c = true → f c j = true → f i j = true
theorem wRound_iff {k : Nat} {f : Nat → Nat → Bool} {i j : Nat} : wRound k f i j = true ↔ f i j = true ∨ (f i k = true ∧ f k j = true) := by
  simp [wRound]
theorem wRound_row {k : Nat} {f : Nat → Nat → Bool} {j : Nat} : wRound k f k j = f k j := by
  rw [Bool.eq_iff_iff, wRound_iff]
  exact ⟨fun h => h.elim id (fun h => h.2), .inl⟩
theorem wRound_col {k : Nat} {f : Nat → Nat → Bool} {i : Nat} : wRound k f i k = f i k := by
  rw [Bool.eq_iff_iff, wRound_iff]
  exact ⟨fun h => h.elim id (fun h => h.1), .inl⟩
theorem through_next {m : Nat} {f : Nat → Nat → Bool} (h : ThroughT m f) : ThroughT (m + 1) (wRound m f) := by
  intro c hc i j h1 h2
  by_cases e : c = m
  · subst e
    rw [wRound_col] at h1
    rw [wRound_row] at h2
    rw [wRound_iff]
    exact .inr ⟨h1, h2⟩
  · have hc : c < m := by omega
    have H := h c hc
    rw [wRound_iff] at h1 h2 ⊢
    rcases h1 with h1 | ⟨h1, h1'⟩ <;> rcases h2 with h2 | ⟨h2, h2'⟩
    · exact .inl (H i j h1 h2)
    · exact .inr ⟨H i m h1 h2, h2'⟩
    · exact .inr ⟨h1, H m j h1' h2⟩
    · exact .inr ⟨h1, h2'⟩
theorem wAll_through (f : Nat → Nat → Bool) : ∀ m, ThroughT m (wAll f m)
  | 0 => fun c hc => by omega
  | m + 1 => through_next (wAll_through f m)
theorem wAll_sub (f : Nat → Nat → Bool) {i j : Nat} (h : f i j = true) : ∀ m, wAll f m i j = true
  | 0 => h
  | m + 1 => by rw [wAll, wRound_iff]; exact .inl (wAll_sub f h m)
theorem wAll_in {f : Nat → Nat → Bool} {R : Nat → Nat → Prop} (h0 : ∀ i j, f i j = true → R i j) (ht : ∀ i j k, R i j → R j k → R i k) : ∀ m i j, wAll f m i j = true → R i j
  | 0, i, j, h => h0 i j h
  | m + 1, i, j, h => by
    rw [wAll, wRound_iff] at h
    rcases h with h | h
    · exact wAll_in h0 ht m i j h
    · exact ht i m j (wAll_in h0 ht m i m h.1) (wAll_in h0 ht m m j h.2)

/-- A round of the reference's, written into its own table: the pairs before place (i, j), row by row, are done. -/
def wPart (k : Nat) (f : Nat → Nat → Bool) (i0 j0 : Nat) (i j : Nat) : Bool := if i < i0 ∨ (i = i0 ∧ j < j0) then wRound k f i j else f i j
theorem wPart_row {k : Nat} {f : Nat → Nat → Bool} {i0 j0 j : Nat} : wPart k f i0 j0 k j = f k j := by
  unfold wPart; split
  · exact wRound_row
  · rfl
theorem wPart_col {k : Nat} {f : Nat → Nat → Bool} {i0 j0 i : Nat} : wPart k f i0 j0 i k = f i k := by
  unfold wPart; split
  · exact wRound_col
  · rfl
theorem wPart_next {k : Nat} {f : Nat → Nat → Bool} {i0 j0 : Nat} (i j : Nat) : wPart k f i0 (j0 + 1) i j = if i = i0 ∧ j = j0 then (wPart k f i0 j0 i0 j0 || (wPart k f i0 j0 i0 k && wPart k f i0 j0 k j0)) else wPart k f i0 j0 i j := by
  rw [wPart_row, wPart_col]
  by_cases e : i = i0 ∧ j = j0
  · obtain ⟨rfl, rfl⟩ := e
    rw [if_pos ⟨rfl, rfl⟩]
    unfold wPart
    rw [if_pos (by omega), if_neg (by omega)]
    rfl
  · rw [if_neg e]
    unfold wPart
    by_cases h : i < i0 ∨ (i = i0 ∧ j < j0)
    · rw [if_pos h, if_pos (by omega)]
    · rw [if_neg h, if_neg (by omega)]

section
variable {n : Nat} {ss : List I3}
theorem silS_mem {s : I3} : s ∈ silS ss ↔ s ∈ ss ∧ s.2.1 = 0 := by simp [silS]
theorem silS_n (h : StepsN n ss) : StepsN n (silS ss) := fun s hs => h s (silS_mem.1 hs).1

/-- The states to which silent ways lead. -/
def waysR (n : Nat) (ss : List I3) (i : Nat) : List Int := reachR (silS ss) (i : Int) n
theorem ways_is (h : StepsN n ss) {i : Nat} (hi : i < n) : IsReach (silS ss) i (waysR n ss i) := reachR_is (silS_n h) hi
theorem ways_inN (h : StepsN n ss) {i : Nat} (hi : i < n) : InN n (waysR n ss i) := reachR_inN (silS_n h) hi n
theorem ways_trans (h : StepsN n ss) {i j : Nat} (hi : i < n) (hj : j < n) {x : Int} (h1 : (j : Int) ∈ waysR n ss i) (h2 : x ∈ waysR n ss j) : x ∈ waysR n ss i :=
  (ways_is h hj).2.2 (· ∈ waysR n ss i) h1 (ways_is h hi).2.1 x h2

def silF (n : Nat) (ss : List I3) : Nat → Nat → Bool := wAll (wInit ss) n
theorem sil_iff (h : StepsN n ss) {i j : Nat} (hi : i < n) (hj : j < n) : silF n ss i j = true ↔ (j : Int) ∈ waysR n ss i := by
  constructor
  · intro hf
    have := wAll_in (f := wInit ss) (R := fun i j => i < n → (j < n ∧ (j : Int) ∈ waysR n ss i)) (fun i j h0 hi => ?_) (fun i j k h1 h2 hi => ?_) n i j hf hi
    · exact this.2
    · unfold wInit at h0
      rw [Bool.or_eq_true] at h0
      rcases h0 with h0 | h0
      · have : i = j := by simpa using h0
        subst this
        exact ⟨hi, (ways_is h hi).1⟩
      · rw [List.any_eq_true] at h0
        obtain ⟨s, hs, e⟩ := h0
        simp only [Bool.and_eq_true, beq_iff_eq] at e
        obtain ⟨a, b, ha, hb, han, hbn⟩ := silS_n h s hs
        refine ⟨by omega, ?_⟩
        rw [← e.2]
        exact (ways_is h hi).2.1 s hs (by rw [e.1]; exact (ways_is h hi).1)
    · obtain ⟨hj, h3⟩ := h1 hi
      obtain ⟨hk, h4⟩ := h2 hj
      exact ⟨hk, ways_trans h hi hj h3 h4⟩
  · intro hm
    have := (ways_is h hi).2.2 (fun x => ∃ j : Nat, x = (j : Int) ∧ j < n ∧ silF n ss i j = true) ⟨i, rfl, hi, wAll_sub _ (by simp [wInit]) n⟩ (fun s hs hc => ?_) (j : Int) hm
    · obtain ⟨q, e, _, hq⟩ := this
      obtain rfl : j = q := by omega
      exact hq
    · obtain ⟨u, e, hu, hf⟩ := hc
      obtain ⟨a, b, ha, hb, han, hbn⟩ := silS_n h s hs
      obtain rfl : u = a := by omega
      refine ⟨b, hb, hbn, wAll_through (wInit ss) n u hu i b hf (wAll_sub _ ?_ n)⟩
      unfold wInit
      rw [Bool.or_eq_true]
      right
      rw [List.any_eq_true]
      exact ⟨s, hs, by simp [ha, hb]⟩

/-- The reference's tables of an action: half, and whole. -/
def halfF (n : Nat) (ss : List I3) (a : Int) (i k : Nat) : Bool := ss.any fun s => (s.2.1 == a) && silF n ss i s.1.toNat && (s.2.2 == (k : Int))
def weakF (n : Nat) (ss : List I3) (a : Int) (i j : Nat) : Bool := (List.range n).any fun k => halfF n ss a i k && silF n ss k j
def tabF (n : Nat) (ss : List I3) (a : Nat) (i j : Nat) : Bool := if a = 0 then silF n ss i j else weakF n ss (a : Int) i j
theorem weak_iff (h : StepsN n ss) {a : Int} {i j : Nat} (hi : i < n) (hj : j < n) : weakF n ss a i j = true ↔ ∃ s ∈ ss, s.2.1 = a ∧ s.1 ∈ waysR n ss i ∧ (j : Int) ∈ waysR n ss s.2.2.toNat := by
  unfold weakF
  rw [List.any_eq_true]
  constructor
  · rintro ⟨k, hk, e⟩
    rw [Bool.and_eq_true] at e
    have hk := List.mem_range.1 hk
    obtain ⟨e1, e2⟩ := e
    unfold halfF at e1
    rw [List.any_eq_true] at e1
    obtain ⟨s, hs, e1⟩ := e1
    simp only [Bool.and_eq_true, beq_iff_eq] at e1
    obtain ⟨u, v, hu, hv, hun, hvn⟩ := h s hs
    have h1 : s.1.toNat = u := by omega
    have h2 : s.2.2.toNat = k := by omega
    rw [h1] at e1
    refine ⟨s, hs, e1.1.1, ?_, ?_⟩
    · rw [hu]; exact (sil_iff h hi hun).1 e1.1.2
    · rw [h2]; exact (sil_iff h hk hj).1 e2
  · rintro ⟨s, hs, e1, e2, e3⟩
    obtain ⟨u, v, hu, hv, hun, hvn⟩ := h s hs
    have h1 : s.1.toNat = u := by omega
    have h2 : s.2.2.toNat = v := by omega
    rw [h2] at e3
    refine ⟨v, List.mem_range.2 hvn, ?_⟩
    rw [Bool.and_eq_true]
    refine ⟨?_, (sil_iff h hvn hj).2 e3⟩
    unfold halfF
    rw [List.any_eq_true]
    refine ⟨s, hs, ?_⟩
    rw [h1, (sil_iff h hi hun).2 (by rw [← hu]; exact e2), e1, hv]
    simp

/-- The steps of the saturated system, as the reference lists them. -/
def specSat (n : Nat) (ss : List I3) : List I3 :=
  (List.range n).flatMap fun i => (List.range 8).flatMap fun a => ((List.range n).filter fun j => tabF n ss a i j).map fun (j : Nat) => ((i : Int), (a : Int), (j : Int))
/-- .. and as the program gathers them. -/
def progSat (n : Nat) (ss : List I3) : List I3 :=
  (List.range n).flatMap fun i => (waysR n ss i).flatMap fun t => ((i : Int), (0 : Int), t) :: (ss.filter fun s => (s.1 == t) && !(s.2.1 == 0)).flatMap fun s => (waysR n ss s.2.2.toNat).map fun e => ((i : Int), s.2.1, e)

theorem pair_flat {α β : Type} {R : β → β → Prop} {f : α → List β} : ∀ {l : List α}, (∀ a ∈ l, (f a).Pairwise R) → l.Pairwise (fun a b => ∀ x ∈ f a, ∀ y ∈ f b, R x y) → (l.flatMap f).Pairwise R
  | [], _, _ => List.Pairwise.nil
  | a :: l, h1, h2 => by
    rw [List.flatMap_cons, List.pairwise_append]
    rw [List.pairwise_cons] at h2
    refine ⟨h1 a (by simp), pair_flat (fun b hb => h1 b (List.mem_cons_of_mem _ hb)) h2.2, fun x hx y hy => ?_⟩
    obtain ⟨b, hb, hy⟩ := List.mem_flatMap.1 hy
    exact h2.1 b hb x hx y hy
theorem spec_sorted (n : Nat) (ss : List I3) : (specSat n ss).Pairwise (fun a b => ltT a b = true) := by
  unfold specSat
  refine pair_flat (fun i _ => pair_flat (fun a _ => ?_) ?_) ?_
  · rw [List.pairwise_map]
    refine List.Pairwise.imp ?_ (List.pairwise_lt_range.filter _)
    intro x y hxy
    rw [ltT_iff]
    dsimp only
    omega
  · refine List.Pairwise.imp ?_ List.pairwise_lt_range
    intro a b hab x hx y hy
    obtain ⟨j, _, rfl⟩ := List.mem_map.1 hx
    obtain ⟨k, _, rfl⟩ := List.mem_map.1 hy
    rw [ltT_iff]
    dsimp only
    omega
  · refine List.Pairwise.imp ?_ List.pairwise_lt_range
    intro i k hik x hx y hy
    obtain ⟨a, _, hx⟩ := List.mem_flatMap.1 hx
    obtain ⟨b, _, hy⟩ := List.mem_flatMap.1 hy
    obtain ⟨j, _, rfl⟩ := List.mem_map.1 hx
    obtain ⟨m, _, rfl⟩ := List.mem_map.1 hy
    rw [ltT_iff]
    dsimp only
    omega
theorem spec_prog (h : StepsN n ss) (ha : ∀ s ∈ ss, 0 ≤ s.2.1 ∧ s.2.1 < 8) : specSat n ss = sortT (progSat n ss) := by
  refine sortT_of (spec_sorted n ss) fun x => ?_
  unfold specSat progSat
  simp only [List.mem_flatMap, List.mem_map, List.mem_filter, List.mem_range, List.mem_cons]
  constructor
  · rintro ⟨i, hi, a, ha8, j, ⟨hj, ht⟩, rfl⟩
    unfold tabF at ht
    split at ht
    · rename_i e
      subst e
      exact ⟨i, hi, (j : Int), (sil_iff h hi hj).1 ht, .inl rfl⟩
    · rename_i e
      obtain ⟨s, hs, h1, h2, h3⟩ := (weak_iff h hi hj).1 ht
      refine ⟨i, hi, s.1, h2, .inr ⟨s, ⟨hs, ?_⟩, (j : Int), h3, by rw [h1]⟩⟩
      have : s.2.1 ≠ 0 := by omega
      simp [this]
  · rintro ⟨i, hi, t, ht, h1 | ⟨s, ⟨hs, h1⟩, e, he, rfl⟩⟩
    · subst h1
      obtain ⟨j, rfl, hj⟩ := ways_inN h hi t ht
      refine ⟨i, hi, 0, by omega, j, ⟨hj, ?_⟩, rfl⟩
      unfold tabF
      rw [if_pos rfl]
      exact (sil_iff h hi hj).2 ht
    · simp only [Bool.and_eq_true, beq_iff_eq, Bool.not_eq_true', beq_eq_false_iff_ne, ne_eq] at h1
      obtain ⟨u, v, hu, hv, hun, hvn⟩ := h s hs
      have h2 : s.2.2.toNat = v := by omega
      rw [h2] at he
      obtain ⟨j, rfl, hj⟩ := ways_inN h hvn e he
      have hs8 := ha s hs
      obtain ⟨a, hae⟩ := Int.eq_ofNat_of_zero_le hs8.1
      refine ⟨i, hi, a, by omega, j, ⟨hj, ?_⟩, by rw [hae]⟩
      unfold tabF
      rw [if_neg (by omega)]
      refine (weak_iff h hi hj).2 ⟨s, hs, hae, by rw [h1.1]; exact ht, by rw [h2]; exact he⟩
end

end Go.Proofs.YtdgnhfhaaghoaaaGreatDoor
