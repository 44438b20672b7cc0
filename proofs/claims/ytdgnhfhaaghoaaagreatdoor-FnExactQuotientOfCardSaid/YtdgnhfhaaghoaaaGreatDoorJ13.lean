/- Ascending lists of numbers: put once, told apart by their members; how many numbers there are below a bound. No program is in sight. Labelled systems: simulation. Plain law: taking pairs away until nothing turns leaves one relation, in whatever order. The ends of a state's steps with an action, and a relation of numbers told as a table. No program is in sight. -/
import Derived.Test.YtdgnhfhaaghoaaaGreatDoorJ1
set_option linter.unusedVariables false
namespace Go.Proofs.YtdgnhfhaaghoaaaGreatDoor

/-- Numbers below n that are in a list, in order. -/
def canonL (n : Nat) (o : List Int) : List Int := ((List.range n).map fun (i : Nat) => (i : Int)).filter fun i => o.contains i

def InN (n : Nat) (o : List Int) : Prop := ∀ x ∈ o, ∃ i : Nat, x = (i : Int) ∧ i < n

theorem canon_mem {n : Nat} {o : List Int} (h : InN n o) (x : Int) : x ∈ canonL n o ↔ x ∈ o := by
  unfold canonL
  rw [List.mem_filter]
  constructor
  · intro h; simpa using h.2
  · intro hx
    obtain ⟨i, rfl, hi⟩ := h x hx
    exact ⟨List.mem_map.2 ⟨i, List.mem_range.2 hi, rfl⟩, by simpa using hx⟩

theorem canon_len (n : Nat) (o : List Int) : (canonL n o).length ≤ n := by
  unfold canonL
  exact Nat.le_trans (List.length_filter_le _ _) (by simp)

theorem range_sorted (n : Nat) : ((List.range n).map fun (i : Nat) => (i : Int)).Pairwise (· < ·) := by
  rw [List.pairwise_map]
  exact List.Pairwise.imp (by intro a b h; omega) List.pairwise_lt_range

theorem canon_sorted (n : Nat) (o : List Int) : (canonL n o).Pairwise (· < ·) := (range_sorted n).filter _

theorem sorted_eq : ∀ {a b : List Int}, a.Pairwise (· < ·) → b.Pairwise (· < ·) → (∀ x, x ∈ a ↔ x ∈ b) → a = b
  | [], [], _, _, _ => rfl
  | [], y :: b, _, _, h => by have := (h y).2 (by simp); simp at this
  | x :: a, [], _, _, h => by have := (h x).1 (by simp); simp at this
  | x :: a, y :: b, ha, hb, h => by
    rw [List.pairwise_cons] at ha hb
    have hxy : x = y := by
      have h1 := (h x).1 (by simp)
      have h2 := (h y).2 (by simp)
      rcases List.mem_cons.1 h1 with e | e
      · exact e
      · rcases List.mem_cons.1 h2 with e2 | e2
        · exact e2.symm
        · have a1 := hb.1 x e; have a2 := ha.1 y e2; omega
    subst hxy
    have : a = b := sorted_eq ha.2 hb.2 fun z => by
      constructor
      · intro hz
        rcases List.mem_cons.1 ((h z).1 (List.mem_cons_of_mem _ hz)) with e | e
        · subst e; have := ha.1 z hz; omega
        · exact e
      · intro hz
        rcases List.mem_cons.1 ((h z).2 (List.mem_cons_of_mem _ hz)) with e | e
        · subst e; have := hb.1 z hz; omega
        · exact e
    rw [this]

theorem sorted_canon {n : Nat} {s o : List Int} (hs : s.Pairwise (· < ·)) (hn : InN n o) (h : ∀ x, x ∈ s ↔ x ∈ o) : s = canonL n o :=
  sorted_eq hs (canon_sorted n o) fun x => (h x).trans (canon_mem hn x).symm

theorem canon_congr {n : Nat} {a b : List Int} (h : ∀ x, x ∈ a ↔ x ∈ b) : canonL n a = canonL n b := by
  unfold canonL
  apply List.filter_congr
  intro x _
  have := h x
  rw [Bool.eq_iff_iff]
  simpa using this

theorem filter_ne_len (a : Int) : ∀ {l : List Int}, l.Nodup → l.length ≤ (l.filter fun x => !(x == a)).length + 1
  | [], _ => by simp
  | x :: l, h => by
    rw [List.nodup_cons] at h
    by_cases e : x = a
    · subst e
      have : l.filter (fun y => !(y == x)) = l := by
        rw [List.filter_eq_self]
        intro y hy
        have : y ≠ x := fun e => h.1 (e ▸ hy)
        simpa using this
      simp [List.filter_cons, this]
    · have := filter_ne_len a h.2
      simp [List.filter_cons, e] at this ⊢
      omega

theorem pigeon : ∀ (n : Nat) {l : List Int}, l.Nodup → InN n l → l.length ≤ n
  | 0, l, _, h => by
    cases l with
    | nil => simp
    | cons x l => obtain ⟨i, _, hi⟩ := h x (by simp); omega
  | n + 1, l, hd, h => by
    have h1 := filter_ne_len (n : Int) hd
    have h2 := pigeon n (l := l.filter fun x => !(x == (n : Int))) (hd.sublist List.filter_sublist) (fun x hx => by
      rw [List.mem_filter] at hx
      obtain ⟨i, rfl, hi⟩ := h x hx.1
      have : (i : Int) ≠ n := by simpa using hx.2
      exact ⟨i, rfl, by omega⟩)
    omega

/-- The reference: a number is put to its place, once. -/
def putI (l : List Int) (x : Int) : List Int := if l.contains x then l else l.takeWhile (· < x) ++ x :: l.dropWhile (· < x)

theorem putI_mem (l : List Int) (x y : Int) : y ∈ putI l x ↔ y ∈ l ∨ y = x := by
  unfold putI
  split
  · rename_i h
    constructor
    · exact .inl
    · rintro (h' | rfl)
      · exact h'
      · simpa using h
  · have : y ∈ l ↔ y ∈ l.takeWhile (· < x) ∨ y ∈ l.dropWhile (· < x) := by
      rw [← List.mem_append, List.takeWhile_append_dropWhile]
    rw [List.mem_append, List.mem_cons, this]
    constructor
    · rintro (h | h | h)
      · exact .inl (.inl h)
      · exact .inr h
      · exact .inl (.inr h)
    · rintro ((h | h) | h)
      · exact .inl h
      · exact .inr (.inr h)
      · exact .inr (.inl h)
theorem putI_len (l : List Int) (x : Int) : (putI l x).length = if l.contains x then l.length else l.length + 1 := by
  unfold putI
  split
  · rfl
  · have := congrArg List.length (List.takeWhile_append_dropWhile (p := fun y => decide (y < x)) (l := l))
    rw [List.length_append] at this
    rw [List.length_append, List.length_cons]
    omega
theorem take_while_lt {x : Int} : ∀ {l : List Int}, ∀ y ∈ l.takeWhile (fun y => decide (y < x)), y < x
  | [], y, h => by simp at h
  | z :: l, y, h => by
    rw [List.takeWhile_cons] at h
    split at h
    · rename_i hz
      rcases List.mem_cons.1 h with rfl | h
      · simpa using hz
      · exact take_while_lt y h
    · simp at h
theorem drop_while_ge {x : Int} : ∀ {l : List Int}, l.Pairwise (· < ·) → ∀ y ∈ l.dropWhile (fun y => decide (y < x)), x ≤ y
  | [], _, y, h => by simp at h
  | z :: l, hp, y, h => by
    rw [List.dropWhile_cons] at h
    rw [List.pairwise_cons] at hp
    split at h
    · exact drop_while_ge hp.2 y h
    · rename_i hz
      have hz' : x ≤ z := by simpa using hz
      rcases List.mem_cons.1 h with rfl | h
      · exact hz'
      · have := hp.1 y h; omega
theorem putI_sorted {l : List Int} (x : Int) (h : l.Pairwise (· < ·)) : (putI l x).Pairwise (· < ·) := by
  unfold putI
  split
  · exact h
  · rename_i hx
    have e := List.takeWhile_append_dropWhile (p := fun y => decide (y < x)) (l := l)
    have hd := h.sublist (List.dropWhile_sublist (p := fun y => decide (y < x)) (l := l))
    have ht := h.sublist (List.takeWhile_sublist (p := fun y => decide (y < x)) (l := l))
    rw [List.pairwise_append, List.pairwise_cons]
    refine ⟨ht, ⟨fun y hy => ?_, hd⟩, fun a ha b hb => ?_⟩
    · have h1 := drop_while_ge h y hy
      have h2 : y ∈ l := (List.dropWhile_sublist _).subset hy
      have h3 : y ≠ x := fun e => hx (by rw [e] at h2; simpa using h2)
      omega
    · have h1 := take_while_lt a ha
      rcases List.mem_cons.1 hb with rfl | hb
      · exact h1
      · have h2 := drop_while_ge h b hb; omega

theorem sorted_nodup {l : List Int} (h : l.Pairwise (· < ·)) : l.Nodup := h.imp (by intro a b hab e; omega)

theorem pair_at {R : Int → Int → Prop} {l : List Int} (h : l.Pairwise R) {i j : Nat} (hij : i < j) (hj : j < l.length) : R (l.getD i 0) (l.getD j 0) := by
  have := (List.pairwise_iff_getElem.1 h) i j (by omega) hj hij
  simpa [List.getD, hj, show i < l.length by omega] using this

end Go.Proofs.YtdgnhfhaaghoaaaGreatDoor

set_option linter.unusedVariables false
namespace Go.Proofs.YtdgnhfhaaghoaaaGreatDoor

/-- Each step of s is followed by one of t with the same action, such that the ends are related. -/
def folB (ss : List I3) (s t : Int) (rel : Int → Int → Bool) : Bool :=
  ss.all fun a => !(a.1 == s) || ss.any fun b => (b.1 == t) && (b.2.1 == a.2.1) && rel a.2.2 b.2.2

theorem folB_mono {ss : List I3} {s t : Int} {r q : Int → Int → Bool} (h : ∀ a b, r a b = true → q a b = true) (hf : folB ss s t r = true) : folB ss s t q = true := by
  unfold folB at hf ⊢
  rw [List.all_eq_true] at hf ⊢
  intro a ha
  have := hf a ha
  rw [Bool.or_eq_true] at this ⊢
  rcases this with h1 | h1
  · exact .inl h1
  · right
    rw [List.any_eq_true] at h1 ⊢
    obtain ⟨b, hb, h2⟩ := h1
    rw [Bool.and_eq_true] at h2
    exact ⟨b, hb, by rw [Bool.and_eq_true]; exact ⟨h2.1, h _ _ h2.2⟩⟩

/-- A relation of states, told pair by pair: false beyond n. -/
structure SimR (n : Nat) (ss : List I3) (init r : Int → Int → Bool) : Prop where
  sub : ∀ a b, r a b = true → init a b = true
  great : ∀ c : Int → Int → Bool, (∀ a b, c a b = true → init a b = true) → (∀ a b, c a b = true → folB ss a b c = true) → ∀ a b, c a b = true → r a b = true

def SimStable (ss : List I3) (r : Int → Int → Bool) : Prop := ∀ a b, r a b = true → folB ss a b r = true

theorem sim_unique {n : Nat} {ss : List I3} {init r q : Int → Int → Bool} (hr : SimR n ss init r) (sr : SimStable ss r) (hq : SimR n ss init q) (sq : SimStable ss q) (a b : Int) : r a b = q a b := by
  rw [Bool.eq_iff_iff]
  exact ⟨hq.great r hr.sub sr a b, hr.great q hq.sub sq a b⟩

def dropP (r : Int → Int → Bool) (x y : Int) : Int → Int → Bool := fun a b => r a b && !(a == x && b == y)
theorem sim_drop {n : Nat} {ss : List I3} {init r : Int → Int → Bool} {x y : Int} (h : SimR n ss init r) (hf : folB ss x y r = false) : SimR n ss init (dropP r x y) := by
  refine ⟨fun a b hab => ?_, fun c h1 h2 a b hab => ?_⟩
  · unfold dropP at hab
    rw [Bool.and_eq_true] at hab
    exact h.sub a b hab.1
  · have hr := h.great c h1 h2
    unfold dropP
    rw [Bool.and_eq_true]
    refine ⟨hr a b hab, ?_⟩
    rw [Bool.not_eq_true', Bool.eq_false_iff]
    intro e
    simp only [Bool.and_eq_true, beq_iff_eq] at e
    obtain ⟨rfl, rfl⟩ := e
    have := folB_mono hr (h2 a b hab)
    rw [hf] at this
    cases this
theorem sim_init {n : Nat} {ss : List I3} {init : Int → Int → Bool} : SimR n ss init init := ⟨fun _ _ h => h, fun c h1 _ => h1⟩

end Go.Proofs.YtdgnhfhaaghoaaaGreatDoor

set_option linter.unusedVariables false
namespace Go.Proofs.YtdgnhfhaaghoaaaGreatDoor

/-- The reference: the ends of a state's steps with an action. -/
def nextA (ss : List I3) (i a : Int) : List Int := (ss.filter fun s => (s.1 == i) && (s.2.1 == a)).map fun s => s.2.2
theorem nextA_take {l : List I3} {k : Nat} (p a : Int) (h : k < l.length) : nextA (l.take (k + 1)) p a = if (l[k].1 == p) && (l[k].2.1 == a) then nextA (l.take k) p a ++ [l[k].2.2] else nextA (l.take k) p a := by
  unfold nextA
  rw [List.take_succ_eq_append_getElem h, List.filter_append, List.map_append]
  by_cases e : ((l[k].1 == p) && (l[k].2.1 == a)) <;> simp [e]
theorem nextA_len (l : List I3) (p a : Int) (k : Nat) : (nextA (l.take k) p a).length ≤ k := by
  unfold nextA
  rw [List.length_map]
  exact Nat.le_trans (List.length_filter_le _ _) (by rw [List.length_take]; omega)
theorem nextA_all (l : List I3) (p a : Int) : (nextA l p a).length ≤ l.length := by
  have := nextA_len l p a l.length
  rwa [List.take_length] at this

def inR (n : Nat) (a : Int) : Bool := decide (0 ≤ a) && decide (a < n)
/-- A table as a relation of numbers. -/
def relF (n : Nat) (f : Nat → Nat → Bool) (a b : Int) : Bool := inR n a && inR n b && f a.toNat b.toNat
theorem relF_at {n : Nat} {f : Nat → Nat → Bool} {i j : Nat} (hi : i < n) (hj : j < n) : relF n f i j = f i j := by
  have h1 : (i : Int) < n := by omega
  have h2 : (j : Int) < n := by omega
  simp [relF, inR, h1, h2, Int.natCast_nonneg]
theorem relF_in {n : Nat} {f : Nat → Nat → Bool} {a b : Int} (h : relF n f a b = true) : ∃ i j : Nat, a = (i : Int) ∧ b = (j : Int) ∧ i < n ∧ j < n ∧ f i j = true := by
  unfold relF inR at h
  simp only [Bool.and_eq_true, decide_eq_true_eq] at h
  exact ⟨a.toNat, b.toNat, by omega, by omega, by omega, by omega, h.2⟩

/-- A step of s is answered by one of t. -/
def ansB (ss : List I3) (t : Int) (rel : Int → Int → Bool) (a : I3) : Bool := (nextA ss t a.2.1).any fun x => rel a.2.2 x
theorem fol_ans {ss : List I3} {s t : Int} {rel : Int → Int → Bool} : folB ss s t rel = ss.all fun a => !(a.1 == s) || ansB ss t rel a := by
  unfold folB ansB nextA
  congr 1
  funext a
  congr 1
  rw [List.any_map, List.any_filter]
  rfl

end Go.Proofs.YtdgnhfhaaghoaaaGreatDoor
