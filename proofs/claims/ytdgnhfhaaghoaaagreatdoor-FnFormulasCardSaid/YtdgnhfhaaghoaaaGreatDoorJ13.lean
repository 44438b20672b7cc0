/- Labelled systems: rounds of partition. Plain law: what a round is, that rounds get finer, and that they come to an end. -/
import Derived.Test.YtdgnhfhaaghoaaaGreatDoorJ12
import Derived.Test.YtdgnhfhaaghoaaaGreatDoorJ2
set_option linter.unusedSimpArgs false
set_option linter.unusedVariables false
namespace Go.Proofs.YtdgnhfhaaghoaaaGreatDoor

/-- The number at a place that is told as a number. -/
def atP (o : List Int) (k : Int) : Int := o.getD k.toNat 0

/-- For each place the first one that is the same. -/
def grp (n : Nat) (eq : Nat → Nat → Bool) : List Int := (List.range n).map fun i => idxR n fun k => eq k i

structure EqvB (n : Nat) (eq : Nat → Nat → Bool) : Prop where
  refl : ∀ i, i < n → eq i i = true
  symm : ∀ i j, i < n → j < n → eq i j = true → eq j i = true
  trans : ∀ i j k, i < n → j < n → k < n → eq i j = true → eq j k = true → eq i k = true

theorem grp_len (n : Nat) (eq : Nat → Nat → Bool) : (grp n eq).length = n := by simp [grp]
theorem grp_at {n : Nat} {eq : Nat → Nat → Bool} {i : Nat} (hi : i < n) : (grp n eq).getD i 0 = idxR n fun k => eq k i := by
  simp [grp, List.getD, hi]

theorem idx_least {n : Nat} {p : Nat → Bool} {i : Nat} (hi : i < n) (h : p i = true) : ∃ k : Nat, idxR n p = (k : Int) ∧ k ≤ i ∧ p k = true ∧ ∀ j, j < k → p j = false := by
  induction i using Nat.strongRecOn with
  | ind i ih =>
    by_cases hl : ∃ j, j < i ∧ p j = true
    · obtain ⟨j, hj, hp⟩ := hl
      obtain ⟨k, h1, h2, h3⟩ := ih j hj (by omega) hp
      exact ⟨k, h1, by omega, h3⟩
    · have hn : ∀ j, j < i → p j = false := fun j hj => by
        rw [Bool.eq_false_iff]
        exact fun e => hl ⟨j, hj, e⟩
      exact ⟨i, idxR_some hi hn h, Nat.le_refl _, h, hn⟩

theorem grp_spec {n : Nat} {eq : Nat → Nat → Bool} (he : EqvB n eq) {i : Nat} (hi : i < n) : ∃ k : Nat, (grp n eq).getD i 0 = (k : Int) ∧ k ≤ i ∧ eq k i = true ∧ ∀ j, j < k → eq j i = false := by
  rw [grp_at hi]
  exact idx_least hi (he.refl i hi)

theorem grp_iff {n : Nat} {eq : Nat → Nat → Bool} (he : EqvB n eq) {i j : Nat} (hi : i < n) (hj : j < n) : (grp n eq).getD i 0 = (grp n eq).getD j 0 ↔ eq i j = true := by
  obtain ⟨a, a1, a2, a3, a4⟩ := grp_spec he hi
  obtain ⟨b, b1, b2, b3, b4⟩ := grp_spec he hj
  rw [a1, b1]
  constructor
  · intro e
    have : a = b := by omega
    subst this
    exact he.trans i a j hi (by omega) hj (he.symm a i (by omega) hi a3) b3
  · intro e
    have h1 : eq a j = true := he.trans a i j (by omega) hi hj a3 e
    have h2 : eq b i = true := he.trans b j i (by omega) hj hi b3 (he.symm i j hi hj e)
    have h3 : ¬ a < b := fun h => by have := b4 a h; rw [h1] at this; cases this
    have h4 : ¬ b < a := fun h => by have := a4 b h; rw [h2] at this; cases this
    omega

theorem grp_congr {n : Nat} {e1 e2 : Nat → Nat → Bool} (h : ∀ k i, k < n → i < n → e1 k i = e2 k i) : grp n e1 = grp n e2 := by
  unfold grp
  apply List.map_congr_left
  intro i hi
  have hi := List.mem_range.1 hi
  unfold idxR
  have : (List.range n).find? (fun k => e1 k i) = (List.range n).find? (fun k => e2 k i) := by
    have hall : ∀ l : List Nat, (∀ k ∈ l, k < n) → l.find? (fun k => e1 k i) = l.find? (fun k => e2 k i) := by
      intro l
      induction l with
      | nil => intro _; rfl
      | cons a l ih =>
        intro hl
        rw [List.find?_cons, List.find?_cons, h a i (hl a (by simp)) hi, ih fun k hk => hl k (List.mem_cons_of_mem _ hk)]
    exact hall _ fun k hk => List.mem_range.1 hk
  rw [this]

/-- Each step of k has one of i with the same action, whose end is in the same part. -/
def nextB (ss : List I3) (parts : List Int) (k i : Nat) : Bool :=
  ss.all fun s => !(s.1 == (k : Int)) || ss.any fun t => (t.1 == (i : Int)) && (t.2.1 == s.2.1) && (atP parts t.2.2 == atP parts s.2.2)
def sigB (ss : List I3) (parts : List Int) (k i : Nat) : Bool := (parts.getD k 0 == parts.getD i 0) && nextB ss parts k i && nextB ss parts i k

theorem nextB_iff {ss : List I3} {parts : List Int} {k i : Nat} : nextB ss parts k i = true ↔ ∀ s ∈ ss, s.1 = (k : Int) → ∃ t ∈ ss, t.1 = (i : Int) ∧ t.2.1 = s.2.1 ∧ atP parts t.2.2 = atP parts s.2.2 := by
  unfold nextB
  rw [List.all_eq_true]
  constructor
  · intro h s hs e
    have := h s hs
    rw [Bool.or_eq_true] at this
    rcases this with h1 | h1
    · simp [e] at h1
    · rw [List.any_eq_true] at h1
      obtain ⟨t, ht, h2⟩ := h1
      simp only [Bool.and_eq_true, beq_iff_eq] at h2
      exact ⟨t, ht, h2.1.1, h2.1.2, h2.2⟩
  · intro h s hs
    rw [Bool.or_eq_true]
    by_cases e : s.1 = (k : Int)
    · right
      obtain ⟨t, ht, h1, h2, h3⟩ := h s hs e
      rw [List.any_eq_true]
      exact ⟨t, ht, by simp [h1, h2, h3]⟩
    · left
      simpa using e
theorem sigB_iff {ss : List I3} {parts : List Int} {k i : Nat} : sigB ss parts k i = true ↔ parts.getD k 0 = parts.getD i 0 ∧ nextB ss parts k i = true ∧ nextB ss parts i k = true := by
  unfold sigB
  simp only [Bool.and_eq_true, beq_iff_eq]
  exact ⟨fun h => ⟨h.1.1, h.1.2, h.2⟩, fun h => ⟨⟨h.1, h.2.1⟩, h.2.2⟩⟩
theorem nextB_trans {ss : List I3} {parts : List Int} {i j k : Nat} (h1 : nextB ss parts i j = true) (h2 : nextB ss parts j k = true) : nextB ss parts i k = true := by
  rw [nextB_iff] at h1 h2 ⊢
  intro s hs e
  obtain ⟨t, ht, a1, a2, a3⟩ := h1 s hs e
  obtain ⟨u, hu, b1, b2, b3⟩ := h2 t ht a1
  exact ⟨u, hu, b1, b2.trans a2, b3.trans a3⟩
theorem sigB_eqv (n : Nat) (ss : List I3) (parts : List Int) : EqvB n (sigB ss parts) := by
  refine ⟨fun i _ => ?_, fun i j _ _ h => ?_, fun i j k _ _ _ h1 h2 => ?_⟩
  · rw [sigB_iff]
    have : nextB ss parts i i = true := by
      rw [nextB_iff]
      intro s hs e
      exact ⟨s, hs, e, rfl, rfl⟩
    exact ⟨rfl, this, this⟩
  · rw [sigB_iff] at h ⊢
    exact ⟨h.1.symm, h.2.2, h.2.1⟩
  · rw [sigB_iff] at h1 h2 ⊢
    exact ⟨h1.1.trans h2.1, nextB_trans h1.2.1 h2.2.1, nextB_trans h2.2.2 h1.2.2⟩

def showB (l : Lab) (k i : Nat) : Bool := l.shows.getD k [] == l.shows.getD i []
theorem showB_eqv (l : Lab) : EqvB l.shows.length (showB l) := by
  refine ⟨fun i _ => by simp [showB], fun i j _ _ h => ?_, fun i j k _ _ _ h1 h2 => ?_⟩
  · simp only [showB, beq_iff_eq] at h ⊢; exact h.symm
  · simp only [showB, beq_iff_eq] at h1 h2 ⊢; exact h1.trans h2

/-- The rounds. -/
def partsL (l : Lab) : Nat → List Int
  | 0 => grp l.shows.length (showB l)
  | m + 1 => grp l.shows.length (sigB l.steps (partsL l m))

def eqvL (l : Lab) : Nat → Nat → Nat → Bool
  | 0 => showB l
  | m + 1 => sigB l.steps (partsL l m)
theorem eqvL_eqv (l : Lab) : ∀ m, EqvB l.shows.length (eqvL l m)
  | 0 => showB_eqv l
  | m + 1 => sigB_eqv _ _ _
theorem partsL_grp (l : Lab) : ∀ m, partsL l m = grp l.shows.length (eqvL l m)
  | 0 => rfl
  | m + 1 => rfl
theorem parts_len (l : Lab) (m : Nat) : (partsL l m).length = l.shows.length := by rw [partsL_grp]; exact grp_len _ _
theorem parts_spec (l : Lab) (m : Nat) {i : Nat} (hi : i < l.shows.length) : ∃ k : Nat, (partsL l m).getD i 0 = (k : Int) ∧ k ≤ i ∧ eqvL l m k i = true ∧ ∀ j, j < k → eqvL l m j i = false := by
  rw [partsL_grp]; exact grp_spec (eqvL_eqv l m) hi
theorem parts_iff (l : Lab) (m : Nat) {i j : Nat} (hi : i < l.shows.length) (hj : j < l.shows.length) : (partsL l m).getD i 0 = (partsL l m).getD j 0 ↔ eqvL l m i j = true := by
  rw [partsL_grp]; exact grp_iff (eqvL_eqv l m) hi hj
/-- A round is finer than the one before. -/
theorem parts_finer (l : Lab) (m : Nat) {i j : Nat} (hi : i < l.shows.length) (hj : j < l.shows.length) (h : (partsL l (m + 1)).getD i 0 = (partsL l (m + 1)).getD j 0) : (partsL l m).getD i 0 = (partsL l m).getD j 0 := by
  have := (parts_iff l (m + 1) hi hj).1 h
  exact (sigB_iff.1 this).1

/-- The states that are the least of their part. -/
def reps (l : Lab) (m : Nat) : List Nat := (List.range l.shows.length).filter fun i => (partsL l m).getD i 0 == (i : Int)
theorem reps_le (l : Lab) (m : Nat) : (reps l m).length ≤ l.shows.length := by
  unfold reps
  exact Nat.le_trans (List.length_filter_le _ _) (by simp)
theorem rep_stays (l : Lab) (m : Nat) {i : Nat} (hi : i < l.shows.length) (h : (partsL l m).getD i 0 = (i : Int)) : (partsL l (m + 1)).getD i 0 = (i : Int) := by
  obtain ⟨k, h1, h2, h3, _⟩ := parts_spec l (m + 1) hi
  have hk : k < l.shows.length := by omega
  have h4 := parts_finer l m hk hi ((parts_iff l (m + 1) hk hi).2 h3)
  obtain ⟨q, q1, q2, _⟩ := parts_spec l m hk
  rw [h4, h] at q1
  rw [h1]
  omega
theorem filter_le {α : Type} {p q : α → Bool} : ∀ {l : List α}, (∀ x ∈ l, p x = true → q x = true) → (l.filter p).length ≤ (l.filter q).length
  | [], _ => by simp
  | x :: l, h => by
    have ih := filter_le (l := l) fun y hy => h y (List.mem_cons_of_mem _ hy)
    rw [List.filter_cons, List.filter_cons]
    cases hp : p x
    · simp only [Bool.false_eq_true, if_false]
      split
      · rw [List.length_cons]; omega
      · exact ih
    · rw [if_pos rfl, if_pos (h x (by simp) hp), List.length_cons, List.length_cons]
      omega
theorem filter_lt {α : Type} {p q : α → Bool} : ∀ {l : List α}, (∀ x ∈ l, p x = true → q x = true) → (∃ x ∈ l, p x = false ∧ q x = true) → (l.filter p).length < (l.filter q).length
  | [], _, h => by obtain ⟨x, hx, _⟩ := h; simp at hx
  | x :: l, h, hex => by
    have hle := filter_le (l := l) fun y hy => h y (List.mem_cons_of_mem _ hy)
    rw [List.filter_cons, List.filter_cons]
    obtain ⟨y, hy, h1, h2⟩ := hex
    rcases List.mem_cons.1 hy with rfl | hy
    · rw [h1, h2]
      simp only [Bool.false_eq_true, if_false, if_true, List.length_cons]
      omega
    · have ih := filter_lt (l := l) (fun z hz => h z (List.mem_cons_of_mem _ hz)) ⟨y, hy, h1, h2⟩
      cases hp : p x
      · simp only [Bool.false_eq_true, if_false]
        split
        · rw [List.length_cons]; omega
        · exact ih
      · rw [if_pos rfl, if_pos (h x (by simp) hp), List.length_cons, List.length_cons]
        omega
theorem list_ext {a b : List Int} (h : a.length = b.length) (he : ∀ i, i < a.length → a.getD i 0 = b.getD i 0) : a = b := by
  apply List.ext_getElem h
  intro i h1 h2
  have := he i h1
  simpa [List.getD, h1, h2] using this
theorem reps_grow (l : Lab) (m : Nat) (h : partsL l (m + 1) ≠ partsL l m) : (reps l m).length < (reps l (m + 1)).length := by
  unfold reps
  refine filter_lt (fun i hi e => ?_) ?_
  · have hi := List.mem_range.1 hi
    rw [beq_iff_eq] at e ⊢
    exact rep_stays l m hi e
  · refine Classical.byContradiction fun hn => h ?_
    refine list_ext (by rw [parts_len, parts_len]) fun i hi => ?_
    rw [parts_len] at hi
    obtain ⟨k, h1, h2, h3, _⟩ := parts_spec l (m + 1) hi
    have hk : k < l.shows.length := by omega
    have hkk : (partsL l (m + 1)).getD k 0 = (k : Int) := by rw [(parts_iff l (m + 1) hk hi).2 h3, h1]
    have hkm : (partsL l m).getD k 0 = (k : Int) := Classical.byContradiction fun e => hn ⟨k, List.mem_range.2 hk, by simpa using e, by simpa using hkk⟩
    rw [h1, ← hkm]
    exact parts_finer l m hk hi (hkk.trans h1.symm)
theorem reps_many (l : Lab) (h0 : 1 ≤ l.shows.length) : ∀ k, (∀ j, j < k → partsL l (j + 1) ≠ partsL l j) → k + 1 ≤ (reps l k).length
  | 0, _ => by
    obtain ⟨k, h1, h2, _⟩ := parts_spec l 0 (i := 0) (by omega)
    have h3 : (partsL l 0).getD 0 0 = ((0 : Nat) : Int) := by rw [h1]; omega
    have : 0 ∈ reps l 0 := by
      unfold reps
      rw [List.mem_filter]
      exact ⟨List.mem_range.2 (by omega), by rw [beq_iff_eq]; exact h3⟩
    exact List.length_pos_of_mem this
  | k + 1, h => by
    have a := reps_many l h0 k fun j hj => h j (by omega)
    have b := reps_grow l k (h k (by omega))
    omega
/-- There are not more rounds than states. -/
theorem rounds_le (l : Lab) (h0 : 1 ≤ l.shows.length) {k : Nat} (h : ∀ j, j < k → partsL l (j + 1) ≠ partsL l j) : k + 1 ≤ l.shows.length :=
  Nat.le_trans (reps_many l h0 k h) (reps_le l k)
theorem parts_stay (l : Lab) {m : Nat} (h : partsL l (m + 1) = partsL l m) : ∀ k, m ≤ k → partsL l k = partsL l m := by
  intro k hk
  induction k with
  | zero => obtain rfl : m = 0 := by omega
            rfl
  | succ k ih =>
    by_cases e : m = k + 1
    · rw [e]
    · have := ih (by omega)
      rw [partsL, this]
      exact h
/-- The last round. -/
def lastL (l : Lab) : List Int := partsL l l.shows.length
theorem last_eq (l : Lab) (h0 : 1 ≤ l.shows.length) {m : Nat} (h : partsL l (m + 1) = partsL l m) (hm : m ≤ l.shows.length) : partsL l m = lastL l := (parts_stay l h _ hm).symm

/-! The two ways in which a round is told: as texts, and as lists. -/

/-- Words without signs of S, before nothing or a sign of S: the seam is at one place. -/
theorem seam {S : UInt8 → Bool} : ∀ {x y r s : List UInt8}, (∀ b ∈ x, S b = false) → (∀ b ∈ y, S b = false) → (∀ b t, r = b :: t → S b = true) → (∀ b t, s = b :: t → S b = true) → x ++ r = y ++ s → x = y ∧ r = s
  | [], [], r, s, _, _, _, _, h => ⟨rfl, h⟩
  | [], b :: y, r, s, _, hy, hr, _, h => by
    have := hr b (y ++ s) (by simpa using h)
    rw [hy b (by simp)] at this
    cases this
  | a :: x, [], r, s, hx, _, _, hs, h => by
    have := hs a (x ++ r) (by simpa using h.symm)
    rw [hx a (by simp)] at this
    cases this
  | a :: x, b :: y, r, s, hx, hy, hr, hs, h => by
    simp only [List.cons_append, List.cons.injEq] at h
    obtain ⟨h1, h2⟩ := seam (fun c hc => hx c (List.mem_cons_of_mem _ hc)) (fun c hc => hy c (List.mem_cons_of_mem _ hc)) hr hs h.2
    exact ⟨by rw [h.1, h1], h2⟩

/-- A way to write numbers without blanks and commas, each in its own way. -/
structure NumText (d : Int → List UInt8) : Prop where
  inj : ∀ a b, d a = d b → a = b
  plain : ∀ a, ∀ b ∈ d a, (b == 32 || b == 44) = false

def numsT (d : Int → List UInt8) (l : List Int) : List UInt8 := l.flatMap fun n => 32 :: d n
theorem nums_inj {d : Int → List UInt8} (hd : NumText d) : ∀ {a b : List Int} {r s : List UInt8}, (∀ x t, r = x :: t → x = 44) → (∀ x t, s = x :: t → x = 44) → numsT d a ++ r = numsT d b ++ s → a = b ∧ r = s
  | [], [], r, s, _, _, h => ⟨rfl, h⟩
  | [], y :: b, r, s, hr, _, h => by
    have := hr 32 (d y ++ (numsT d b ++ s)) (by simpa [numsT] using h)
    exact absurd this (by decide)
  | x :: a, [], r, s, _, hs, h => by
    have := hs 32 (d x ++ (numsT d a ++ r)) (by simpa [numsT] using h.symm)
    exact absurd this (by decide)
  | x :: a, y :: b, r, s, hr, hs, h => by
    have h : d x ++ (numsT d a ++ r) = d y ++ (numsT d b ++ s) := by simpa [numsT] using h
    have hst : ∀ (c : List Int) (q : List UInt8), (∀ z t, q = z :: t → z = 44) → ∀ z t, numsT d c ++ q = z :: t → (z == 32 || z == 44) = true := by
      intro c q hq z t e
      cases c with
      | nil => rw [hq z t (by simpa [numsT] using e)]; decide
      | cons n c =>
        have : z = 32 := by
          simp [numsT] at e
          exact e.1.symm
        rw [this]; decide
    obtain ⟨h1, h2⟩ := seam (S := fun b => b == 32 || b == 44) (hd.plain x) (hd.plain y) (hst a r hr) (hst b s hs) h
    obtain ⟨h3, h4⟩ := nums_inj hd hr hs h2
    exact ⟨by rw [hd.inj _ _ h1, h3], h4⟩

/-- The text of a state's part, and of its steps' actions and ends' parts. -/
def lookT (d : Int → List UInt8) (p : Int) (own : List (Int × Int)) : List UInt8 := [112, 97, 114, 116] ++ (numsT d [p] ++ own.flatMap fun x => 44 :: numsT d [x.1, x.2])
theorem look_inj {d : Int → List UInt8} (hd : NumText d) {p q : Int} {a b : List (Int × Int)} (h : lookT d p a = lookT d q b) : p = q ∧ a = b := by
  unfold lookT at h
  replace h := List.append_cancel_left h
  have hc : ∀ (l : List (Int × Int)) x t, (l.flatMap fun x => 44 :: numsT d [x.1, x.2]) = x :: t → x = 44 := by
    intro l x t e
    cases l with
    | nil => simp at e
    | cons y l => simp at e; exact e.1.symm
  obtain ⟨h1, h2⟩ := nums_inj hd (hc a) (hc b) h
  refine ⟨by simpa using h1, ?_⟩
  clear h h1
  induction a generalizing b with
  | nil =>
    cases b with
    | nil => rfl
    | cons y b => simp at h2
  | cons x a ih =>
    cases b with
    | nil => simp at h2
    | cons y b =>
      rw [List.flatMap_cons, List.flatMap_cons] at h2
      simp only [List.cons_append, List.cons.injEq, true_and] at h2
      obtain ⟨h3, h4⟩ := nums_inj hd (hc a) (hc b) h2
      have h5 := ih h4
      have h6 : x = y := by
        simp only [List.cons.injEq, and_true] at h3
        exact Prod.ext h3.1 h3.2
      rw [h5, h6]

end Go.Proofs.YtdgnhfhaaghoaaaGreatDoor
