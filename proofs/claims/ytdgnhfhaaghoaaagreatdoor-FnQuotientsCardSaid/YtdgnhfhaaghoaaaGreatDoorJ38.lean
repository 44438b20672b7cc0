/- Labelled systems: bisimilarity is the greatest bisimulation; it is finer than weak bisimilarity and than simulation. Plain law. Labelled systems: bisimilar states are simulated by each other; unions; the quotient has no two bisimilar states, and each state is bisimilar to its own of the quotient. Plain law. -/
import Derived.Test.YtdgnhfhaaghoaaaGreatDoorJ33
import Derived.Test.YtdgnhfhaaghoaaaGreatDoorJ32
import Derived.Test.YtdgnhfhaaghoaaaGreatDoorJ13
set_option linter.unusedSimpArgs false
set_option linter.unusedVariables false
namespace Go.Proofs.YtdgnhfhaaghoaaaGreatDoor

/-- States that are in one part in the last round. -/
def bis (l : Lab) (i j : Nat) : Prop := (lastL l).getD i 0 = (lastL l).getD j 0

theorem bis_parts {l : Lab} {i j : Nat} (hi : i < l.shows.length) (hj : j < l.shows.length) (h : bis l i j) : ∀ m, m ≤ l.shows.length → (partsL l m).getD i 0 = (partsL l m).getD j 0 := by
  have : ∀ d m, m + d = l.shows.length → (partsL l m).getD i 0 = (partsL l m).getD j 0 := by
    intro d
    induction d with
    | zero => intro m e; obtain rfl : m = l.shows.length := by omega
              exact h
    | succ d ih => intro m e; exact parts_finer l m hi hj (ih (m + 1) (by omega))
  exact fun m hm => this (l.shows.length - m) m (by omega)
theorem bis_shows {l : Lab} {i j : Nat} (hi : i < l.shows.length) (hj : j < l.shows.length) (h : bis l i j) : l.shows.getD i [] = l.shows.getD j [] := by
  have : showB l i j = true := (parts_iff l 0 hi hj).1 (bis_parts hi hj h 0 (Nat.zero_le _))
  simpa [showB] using this
theorem bis_next {l : Lab} (hl : GoodL l) {i j : Nat} (hi : i < l.shows.length) (hj : j < l.shows.length) (h : bis l i j) {s : I3} (hs : s ∈ l.steps) (e : s.1 = (i : Int)) : ∃ t ∈ l.steps, t.1 = (j : Int) ∧ t.2.1 = s.2.1 ∧ bis l t.2.2.toNat s.2.2.toNat := by
  have h1 : sigB l.steps (lastL l) i j = true := by
    have : (partsL l (l.shows.length + 1)).getD i 0 = (partsL l (l.shows.length + 1)).getD j 0 := by rw [last_stable l hl.some_]; exact h
    exact (parts_iff l (l.shows.length + 1) hi hj).1 this
  exact (nextB_iff.1 (sigB_iff.1 h1).2.1) s hs e
theorem bis_refl (l : Lab) (i : Nat) : bis l i i := rfl
theorem bis_symm {l : Lab} {i j : Nat} (h : bis l i j) : bis l j i := Eq.symm h
theorem bis_trans {l : Lab} {i j k : Nat} (h : bis l i j) (h' : bis l j k) : bis l i k := Eq.trans h h'

/-- Each bisimulation is within it. -/
theorem bis_great {l : Lab} (hl : GoodL l) {R : Nat → Nat → Prop} (hR : ∀ i j, R i j → i < l.shows.length ∧ j < l.shows.length ∧ l.shows.getD i [] = l.shows.getD j [] ∧
    (∀ s ∈ l.steps, s.1 = (i : Int) → ∃ t ∈ l.steps, t.1 = (j : Int) ∧ t.2.1 = s.2.1 ∧ R s.2.2.toNat t.2.2.toNat) ∧
    (∀ t ∈ l.steps, t.1 = (j : Int) → ∃ s ∈ l.steps, s.1 = (i : Int) ∧ s.2.1 = t.2.1 ∧ R s.2.2.toNat t.2.2.toNat)) : ∀ i j, R i j → bis l i j := by
  have : ∀ m i j, R i j → (partsL l m).getD i 0 = (partsL l m).getD j 0 := by
    intro m
    induction m with
    | zero =>
      intro i j h
      obtain ⟨hi, hj, hsh, _⟩ := hR i j h
      rw [parts_iff l 0 hi hj]
      show showB l i j = true
      simp only [showB, beq_iff_eq]
      exact hsh
    | succ m ih =>
      intro i j h
      obtain ⟨hi, hj, _, h1, h2⟩ := hR i j h
      rw [parts_iff l (m + 1) hi hj]
      show sigB l.steps (partsL l m) i j = true
      rw [sigB_iff, nextB_iff, nextB_iff]
      refine ⟨ih i j h, fun s hs e => ?_, fun t ht e => ?_⟩
      · obtain ⟨t, ht, t1, t2, t3⟩ := h1 s hs e
        exact ⟨t, ht, t1, t2, (ih _ _ t3).symm⟩
      · obtain ⟨s, hs, s1, s2, s3⟩ := h2 t ht e
        exact ⟨s, hs, s1, s2, ih _ _ s3⟩
  exact this _

end Go.Proofs.YtdgnhfhaaghoaaaGreatDoor

set_option linter.unusedVariables false
namespace Go.Proofs.YtdgnhfhaaghoaaaGreatDoor

/-! Unions. -/

def shiftQ (n : Nat) (s : I3) : I3 := (s.1 + n, s.2.1, s.2.2 + n)
def uniQ (a b : Lab) : Lab := ⟨a.shows ++ b.shows, a.steps ++ b.steps.map (shiftQ a.shows.length)⟩
theorem uni_len (a b : Lab) : (uniQ a b).shows.length = a.shows.length + b.shows.length := by simp [uniQ]
theorem uni_show1 {a b : Lab} {i : Nat} (h : i < a.shows.length) : (uniQ a b).shows.getD i [] = a.shows.getD i [] := by
  simp [uniQ, List.getD, List.getElem?_append_left h]
theorem uni_show2 {a b : Lab} {i : Nat} : (uniQ a b).shows.getD (a.shows.length + i) [] = b.shows.getD i [] := by
  simp [uniQ, List.getD, List.getElem?_append_right]
theorem uni_mem {a b : Lab} {s : I3} : s ∈ (uniQ a b).steps ↔ s ∈ a.steps ∨ ∃ t ∈ b.steps, s = shiftQ a.shows.length t := by
  unfold uniQ
  rw [List.mem_append, List.mem_map]
  constructor
  · rintro (h | ⟨t, h, e⟩)
    · exact .inl h
    · exact .inr ⟨t, h, e.symm⟩
  · rintro (h | ⟨t, h, e⟩)
    · exact .inl h
    · exact .inr ⟨t, h, e.symm⟩
theorem uni_good {a b : Lab} (ha : GoodL a) (hb : GoodL b) : GoodL (uniQ a b) := by
  refine ⟨by rw [uni_len]; have := ha.some_; omega, fun s hs => ?_, fun s hs => ?_, fun i hi => ?_⟩
  · rw [uni_len]
    rcases uni_mem.1 hs with h | ⟨t, h, rfl⟩
    · obtain ⟨i, j, h1, h2, h3, h4⟩ := ha.steps s h
      exact ⟨i, j, h1, h2, by omega, by omega⟩
    · obtain ⟨i, j, h1, h2, h3, h4⟩ := hb.steps t h
      exact ⟨i + a.shows.length, j + a.shows.length, by simp [shiftQ, h1], by simp [shiftQ, h2], by omega, by omega⟩
  · rcases uni_mem.1 hs with h | ⟨t, h, rfl⟩
    · exact ha.acts s h
    · exact hb.acts t h
  · rw [uni_len] at hi
    by_cases h : i < a.shows.length
    · rw [uni_show1 h]; exact ha.marks i h
    · obtain ⟨k, rfl⟩ : ∃ k, i = a.shows.length + k := ⟨i - a.shows.length, by omega⟩
      rw [uni_show2]; exact hb.marks k (by omega)

/-- In a union, states of the first part are bisimilar as they were. -/
theorem uni_bis1 {a b : Lab} (ha : GoodL a) (hb : GoodL b) {i j : Nat} (hi : i < a.shows.length) (hj : j < a.shows.length) : bis (uniQ a b) i j ↔ bis a i j := by
  have hn : ∀ k, k < a.shows.length → k < (uniQ a b).shows.length := fun k hk => by rw [uni_len]; omega
  have own : ∀ s ∈ (uniQ a b).steps, ∀ i : Nat, i < a.shows.length → s.1 = (i : Int) → s ∈ a.steps ∧ s.2.2.toNat < a.shows.length := by
    intro s hs i hi e
    rcases uni_mem.1 hs with h | ⟨t, h, rfl⟩
    · obtain ⟨p, q, h1, h2, h3, h4⟩ := ha.steps s h
      exact ⟨h, by omega⟩
    · obtain ⟨p, q, h1, h2, h3, h4⟩ := hb.steps t h
      have e : t.1 + (a.shows.length : Int) = (i : Int) := e
      omega
  constructor
  · intro h
    refine bis_great ha (R := fun i j => i < a.shows.length ∧ j < a.shows.length ∧ bis (uniQ a b) i j) ?_ i j ⟨hi, hj, h⟩
    rintro i j ⟨hi, hj, h⟩
    refine ⟨hi, hj, ?_, fun s hs e => ?_, fun t ht e => ?_⟩
    · have := bis_shows (hn i hi) (hn j hj) h
      rwa [uni_show1 hi, uni_show1 hj] at this
    · obtain ⟨t, ht, t1, t2, t3⟩ := bis_next (uni_good ha hb) (hn i hi) (hn j hj) h (uni_mem.2 (.inl hs)) e
      obtain ⟨u1, u2⟩ := own t ht j hj t1
      exact ⟨t, u1, t1, t2, (own s (uni_mem.2 (.inl hs)) i hi e).2, u2, bis_symm t3⟩
    · obtain ⟨s, hs, s1, s2, s3⟩ := bis_next (uni_good ha hb) (hn j hj) (hn i hi) (bis_symm h) (uni_mem.2 (.inl ht)) e
      obtain ⟨u1, u2⟩ := own s hs i hi s1
      exact ⟨s, u1, s1, s2, u2, (own t (uni_mem.2 (.inl ht)) j hj e).2, s3⟩
  · intro h
    refine bis_great (uni_good ha hb) (R := fun i j => i < a.shows.length ∧ j < a.shows.length ∧ bis a i j) ?_ i j ⟨hi, hj, h⟩
    rintro i j ⟨hi, hj, h⟩
    refine ⟨hn i hi, hn j hj, ?_, fun s hs e => ?_, fun t ht e => ?_⟩
    · rw [uni_show1 hi, uni_show1 hj]; exact bis_shows hi hj h
    · obtain ⟨v1, v2⟩ := own s hs i hi e
      obtain ⟨t, ht, t1, t2, t3⟩ := bis_next ha hi hj h v1 e
      exact ⟨t, uni_mem.2 (.inl ht), t1, t2, v2, (own t (uni_mem.2 (.inl ht)) j hj t1).2, bis_symm t3⟩
    · obtain ⟨v1, v2⟩ := own t ht j hj e
      obtain ⟨s, hs, s1, s2, s3⟩ := bis_next ha hj hi (bis_symm h) v1 e
      exact ⟨s, uni_mem.2 (.inl hs), s1, s2, (own s (uni_mem.2 (.inl hs)) i hi s1).2, v2, s3⟩

/-- .. and so are states of the second part. -/
theorem uni_bis2 {a b : Lab} (ha : GoodL a) (hb : GoodL b) {i j : Nat} (hi : i < b.shows.length) (hj : j < b.shows.length) : bis (uniQ a b) (a.shows.length + i) (a.shows.length + j) ↔ bis b i j := by
  have hn : ∀ k, k < b.shows.length → a.shows.length + k < (uniQ a b).shows.length := fun k hk => by rw [uni_len]; omega
  have own : ∀ s ∈ (uniQ a b).steps, ∀ i : Nat, i < b.shows.length → s.1 = ((a.shows.length + i : Nat) : Int) → ∃ t ∈ b.steps, s = shiftQ a.shows.length t ∧ t.1 = (i : Int) ∧ t.2.2.toNat < b.shows.length ∧ s.2.2.toNat = a.shows.length + t.2.2.toNat := by
    intro s hs i hi e
    rcases uni_mem.1 hs with h | ⟨t, h, rfl⟩
    · obtain ⟨p, q, h1, h2, h3, h4⟩ := ha.steps s h
      omega
    · obtain ⟨p, q, h1, h2, h3, h4⟩ := hb.steps t h
      have e : t.1 + (a.shows.length : Int) = ((a.shows.length + i : Nat) : Int) := e
      refine ⟨t, h, rfl, by omega, by omega, ?_⟩
      show (t.2.2 + (a.shows.length : Int)).toNat = _
      omega
  have up : ∀ t ∈ b.steps, ∀ i : Nat, t.1 = (i : Int) → shiftQ a.shows.length t ∈ (uniQ a b).steps ∧ (shiftQ a.shows.length t).1 = ((a.shows.length + i : Nat) : Int) ∧ (shiftQ a.shows.length t).2.2.toNat = a.shows.length + t.2.2.toNat ∧ t.2.2.toNat < b.shows.length := by
    intro t ht i e
    obtain ⟨p, q, h1, h2, h3, h4⟩ := hb.steps t ht
    refine ⟨uni_mem.2 (.inr ⟨t, ht, rfl⟩), ?_, ?_, by omega⟩
    · show t.1 + (a.shows.length : Int) = _
      omega
    · show (t.2.2 + (a.shows.length : Int)).toNat = _
      omega
  constructor
  · intro h
    refine bis_great hb (R := fun i j => i < b.shows.length ∧ j < b.shows.length ∧ bis (uniQ a b) (a.shows.length + i) (a.shows.length + j)) ?_ i j ⟨hi, hj, h⟩
    rintro i j ⟨hi, hj, h⟩
    refine ⟨hi, hj, ?_, fun s hs e => ?_, fun t ht e => ?_⟩
    · have := bis_shows (hn i hi) (hn j hj) h
      rwa [uni_show2, uni_show2] at this
    · obtain ⟨v1, v2, v3, v4⟩ := up s hs i e
      obtain ⟨t, ht, t1, t2, t3⟩ := bis_next (uni_good ha hb) (hn i hi) (hn j hj) h v1 v2
      obtain ⟨u, hu, rfl, u1, u2, u3⟩ := own t ht j hj t1
      rw [v3, u3] at t3
      exact ⟨u, hu, u1, t2, v4, u2, bis_symm t3⟩
    · obtain ⟨v1, v2, v3, v4⟩ := up t ht j e
      obtain ⟨s, hs, s1, s2, s3⟩ := bis_next (uni_good ha hb) (hn j hj) (hn i hi) (bis_symm h) v1 v2
      obtain ⟨u, hu, rfl, u1, u2, u3⟩ := own s hs i hi s1
      rw [v3, u3] at s3
      exact ⟨u, hu, u1, s2, u2, v4, s3⟩
  · intro h
    refine bis_great (uni_good ha hb) (R := fun x y => ∃ i j, x = a.shows.length + i ∧ y = a.shows.length + j ∧ i < b.shows.length ∧ j < b.shows.length ∧ bis b i j) ?_ _ _ ⟨i, j, rfl, rfl, hi, hj, h⟩
    rintro x y ⟨i, j, rfl, rfl, hi, hj, h⟩
    refine ⟨hn i hi, hn j hj, ?_, fun s hs e => ?_, fun t ht e => ?_⟩
    · rw [uni_show2, uni_show2]; exact bis_shows hi hj h
    · obtain ⟨u, hu, rfl, u1, u2, u3⟩ := own s hs i hi e
      obtain ⟨t, ht, t1, t2, t3⟩ := bis_next hb hi hj h hu u1
      obtain ⟨v1, v2, v3, v4⟩ := up t ht j t1
      exact ⟨_, v1, v2, t2, _, _, u3, v3, u2, v4, bis_symm t3⟩
    · obtain ⟨u, hu, rfl, u1, u2, u3⟩ := own t ht j hj e
      obtain ⟨s, hs, s1, s2, s3⟩ := bis_next hb hj hi (bis_symm h) hu u1
      obtain ⟨v1, v2, v3, v4⟩ := up s hs i s1
      exact ⟨_, v1, v2, s2, _, _, v3, u3, v4, u2, s3⟩

/-- The least state that is bisimilar. -/
theorem last_least {l : Lab} {i k : Nat} (hi : i < l.shows.length) (hk : k ≤ i) (hb : bis l k i) (hm : ∀ j, j < k → ¬ bis l j i) : (lastL l).getD i 0 = (k : Int) := by
  obtain ⟨q, h1, h2, h3, h4⟩ := parts_spec l l.shows.length hi
  have h5 : bis l q i := (parts_iff l l.shows.length (by omega) hi).2 h3
  have h6 : ¬ k < q := fun h => by
    have := h4 k h
    have h7 := (parts_iff l l.shows.length (show k < l.shows.length by omega) hi).1 hb
    rw [this] at h7
    cases h7
  have h8 : ¬ q < k := fun h => hm q h h5
  have : (lastL l).getD i 0 = (q : Int) := h1
  rw [this]
  omega
/-- In a union the first part keeps its numbers. -/
theorem uni_last {a b : Lab} (ha : GoodL a) (hb : GoodL b) {i : Nat} (hi : i < a.shows.length) : (lastL (uniQ a b)).getD i 0 = (lastL a).getD i 0 := by
  obtain ⟨q, h1, h2, h3, h4⟩ := parts_spec a a.shows.length hi
  have h5 : bis a q i := (parts_iff a a.shows.length (by omega) hi).2 h3
  have : (lastL a).getD i 0 = (q : Int) := h1
  rw [this]
  refine last_least (by rw [uni_len]; omega) h2 ((uni_bis1 ha hb (by omega) hi).2 h5) fun j hj hb' => ?_
  have h6 := (uni_bis1 ha hb (show j < a.shows.length by omega) hi).1 hb'
  have h7 := (parts_iff a a.shows.length (show j < a.shows.length by omega) hi).1 h6
  rw [h4 j hj] at h7
  cases h7

end Go.Proofs.YtdgnhfhaaghoaaaGreatDoor
