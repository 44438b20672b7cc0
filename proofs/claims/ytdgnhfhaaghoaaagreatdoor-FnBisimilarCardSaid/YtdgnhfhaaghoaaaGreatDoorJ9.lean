/- Ascending lists of numbers: put once, told apart by their members; how many numbers there are below a bound. No program is in sight. Labelled systems: simulation. Plain law: taking pairs away until nothing turns leaves one relation, in whatever order. The ends of a state's steps with an action, and a relation of numbers told as a table. No program is in sight. Labelled systems: what a round tells of a state, as the program's and as the reference's list. Plain law: both tell apart the same states. Triples in order, each once. -/
import Derived.Test.YtdgnhfhaaghoaaaGreatDoorJ2
import Derived.Test.YtdgnhfhaaghoaaaGreatDoorJ8
set_option linter.unusedSimpArgs false
set_option linter.unusedVariables false
namespace Go.Proofs.YtdgnhfhaaghoaaaGreatDoor

def InN (n : Nat) (o : List Int) : Prop := ∀ x ∈ o, ∃ i : Nat, x = (i : Int) ∧ i < n

theorem sorted_eq : ∀ {a b : List Int}, a.Pairwise (· < ·) → b.Pairwise (· < ·) → (∀ x, x ∈ a ↔ x ∈ b) → a = b
  | [], [], _, _, _ => rfl
  | [], y :: b, _, _, h => by have := (h y).2 (by simp); simp at this
  | x :: a, [], _, _, h => by have := (h x).1 (by simp); simp at this
  | x :: a, y :: b, ha, hb, h => by
    rw [List.pairwise_cons] at ha hb
    have hxy : x = y := by
      have h1 := (h x).1 (by simp)
      have h2 := (h y).2 (by simp)
      rcases List.mem_cons.1 h1 with e | e
      · exact e
      · rcases List.mem_cons.1 h2 with e2 | e2
        · exact e2.symm
        · have a1 := hb.1 x e; have a2 := ha.1 y e2; omega
    subst hxy
    have : a = b := sorted_eq ha.2 hb.2 fun z => by
      constructor
      · intro hz
        rcases List.mem_cons.1 ((h z).1 (List.mem_cons_of_mem _ hz)) with e | e
        · subst e; have := ha.1 z hz; omega
        · exact e
      · intro hz
        rcases List.mem_cons.1 ((h z).2 (List.mem_cons_of_mem _ hz)) with e | e
        · subst e; have := hb.1 z hz; omega
        · exact e
    rw [this]

theorem filter_ne_len (a : Int) : ∀ {l : List Int}, l.Nodup → l.length ≤ (l.filter fun x => !(x == a)).length + 1
  | [], _ => by simp
  | x :: l, h => by
    rw [List.nodup_cons] at h
    by_cases e : x = a
    · subst e
      have : l.filter (fun y => !(y == x)) = l := by
        rw [List.filter_eq_self]
        intro y hy
        have : y ≠ x := fun e => h.1 (e ▸ hy)
        simpa using this
      simp [List.filter_cons, this]
    · have := filter_ne_len a h.2
      simp [List.filter_cons, e] at this ⊢
      omega

theorem pigeon : ∀ (n : Nat) {l : List Int}, l.Nodup → InN n l → l.length ≤ n
  | 0, l, _, h => by
    cases l with
    | nil => simp
    | cons x l => obtain ⟨i, _, hi⟩ := h x (by simp); omega
  | n + 1, l, hd, h => by
    have h1 := filter_ne_len (n : Int) hd
    have h2 := pigeon n (l := l.filter fun x => !(x == (n : Int))) (hd.sublist List.filter_sublist) (fun x hx => by
      rw [List.mem_filter] at hx
      obtain ⟨i, rfl, hi⟩ := h x hx.1
      have : (i : Int) ≠ n := by simpa using hx.2
      exact ⟨i, rfl, by omega⟩)
    omega

/-- The reference: a number is put to its place, once. -/
def putI (l : List Int) (x : Int) : List Int := if l.contains x then l else l.takeWhile (· < x) ++ x :: l.dropWhile (· < x)

theorem putI_mem (l : List Int) (x y : Int) : y ∈ putI l x ↔ y ∈ l ∨ y = x := by
  unfold putI
  split
  · rename_i h
    constructor
    · exact .inl
    · rintro (h' | rfl)
      · exact h'
      · simpa using h
  · have : y ∈ l ↔ y ∈ l.takeWhile (· < x) ∨ y ∈ l.dropWhile (· < x) := by
      rw [← List.mem_append, List.takeWhile_append_dropWhile]
    rw [List.mem_append, List.mem_cons, this]
    constructor
    · rintro (h | h | h)
      · exact .inl (.inl h)
      · exact .inr h
      · exact .inl (.inr h)
    · rintro ((h | h) | h)
      · exact .inl h
      · exact .inr (.inr h)
      · exact .inr (.inl h)
theorem putI_len (l : List Int) (x : Int) : (putI l x).length = if l.contains x then l.length else l.length + 1 := by
  unfold putI
  split
  · rfl
  · have := congrArg List.length (List.takeWhile_append_dropWhile (p := fun y => decide (y < x)) (l := l))
    rw [List.length_append] at this
    rw [List.length_append, List.length_cons]
    omega
theorem take_while_lt {x : Int} : ∀ {l : List Int}, ∀ y ∈ l.takeWhile (fun y => decide (y < x)), y < x
  | [], y, h => by simp at h
  | z :: l, y, h => by
    rw [List.takeWhile_cons] at h
    split at h
    · rename_i hz
      rcases List.mem_cons.1 h with rfl | h
      · simpa using hz
      · exact take_while_lt y h
    · simp at h
theorem drop_while_ge {x : Int} : ∀ {l : List Int}, l.Pairwise (· < ·) → ∀ y ∈ l.dropWhile (fun y => decide (y < x)), x ≤ y
  | [], _, y, h => by simp at h
  | z :: l, hp, y, h => by
    rw [List.dropWhile_cons] at h
    rw [List.pairwise_cons] at hp
    split at h
    · exact drop_while_ge hp.2 y h
    · rename_i hz
      have hz' : x ≤ z := by simpa using hz
      rcases List.mem_cons.1 h with rfl | h
      · exact hz'
      · have := hp.1 y h; omega
theorem putI_sorted {l : List Int} (x : Int) (h : l.Pairwise (· < ·)) : (putI l x).Pairwise (· < ·) := by
  unfold putI
  split
  · exact h
  · rename_i hx
    have e := List.takeWhile_append_dropWhile (p := fun y => decide (y < x)) (l := l)
    have hd := h.sublist (List.dropWhile_sublist (p := fun y => decide (y < x)) (l := l))
    have ht := h.sublist (List.takeWhile_sublist (p := fun y => decide (y < x)) (l := l))
    rw [List.pairwise_append, List.pairwise_cons]
    refine ⟨ht, ⟨fun y hy => ?_, hd⟩, fun a ha b hb => ?_⟩
    · have h1 := drop_while_ge h y hy
      have h2 : y ∈ l := (List.dropWhile_sublist _).subset hy
      have h3 : y ≠ x := fun e => hx (by rw [e] at h2; simpa using h2)
      omega
    · have h1 := take_while_lt a ha
      rcases List.mem_cons.1 hb with rfl | hb
      · exact h1
      · have h2 := drop_while_ge h b hb; omega

theorem sorted_nodup {l : List Int} (h : l.Pairwise (· < ·)) : l.Nodup := h.imp (by intro a b hab e; omega)

end Go.Proofs.YtdgnhfhaaghoaaaGreatDoor

set_option linter.unusedVariables false
namespace Go.Proofs.YtdgnhfhaaghoaaaGreatDoor

/-- Each step of s is followed by one of t with the same action, such that the ends are related. -/
def folB (ss : List I3) (s t : Int) (rel : Int → Int → Bool) : Bool :=
  ss.all fun a => !(a.1 == s) || ss.any fun b => (b.1 == t) && (b.2.1 == a.2.1) && rel a.2.2 b.2.2

theorem folB_mono {ss : List I3} {s t : Int} {r q : Int → Int → Bool} (h : ∀ a b, r a b = true → q a b = true) (hf : folB ss s t r = true) : folB ss s t q = true := by
  unfold folB at hf ⊢
  rw [List.all_eq_true] at hf ⊢
  intro a ha
  have := hf a ha
  rw [Bool.or_eq_true] at this ⊢
  rcases this with h1 | h1
  · exact .inl h1
  · right
    rw [List.any_eq_true] at h1 ⊢
    obtain ⟨b, hb, h2⟩ := h1
    rw [Bool.and_eq_true] at h2
    exact ⟨b, hb, by rw [Bool.and_eq_true]; exact ⟨h2.1, h _ _ h2.2⟩⟩

/-- A relation of states, told pair by pair: false beyond n. -/
structure SimR (n : Nat) (ss : List I3) (init r : Int → Int → Bool) : Prop where
  sub : ∀ a b, r a b = true → init a b = true
  great : ∀ c : Int → Int → Bool, (∀ a b, c a b = true → init a b = true) → (∀ a b, c a b = true → folB ss a b c = true) → ∀ a b, c a b = true → r a b = true

def SimStable (ss : List I3) (r : Int → Int → Bool) : Prop := ∀ a b, r a b = true → folB ss a b r = true

theorem sim_unique {n : Nat} {ss : List I3} {init r q : Int → Int → Bool} (hr : SimR n ss init r) (sr : SimStable ss r) (hq : SimR n ss init q) (sq : SimStable ss q) (a b : Int) : r a b = q a b := by
  rw [Bool.eq_iff_iff]
  exact ⟨hq.great r hr.sub sr a b, hr.great q hq.sub sq a b⟩

def dropP (r : Int → Int → Bool) (x y : Int) : Int → Int → Bool := fun a b => r a b && !(a == x && b == y)
theorem sim_drop {n : Nat} {ss : List I3} {init r : Int → Int → Bool} {x y : Int} (h : SimR n ss init r) (hf : folB ss x y r = false) : SimR n ss init (dropP r x y) := by
  refine ⟨fun a b hab => ?_, fun c h1 h2 a b hab => ?_⟩
  · unfold dropP at hab
    rw [Bool.and_eq_true] at hab
    exact h.sub a b hab.1
  · have hr := h.great c h1 h2
    unfold dropP
    rw [Bool.and_eq_true]
    refine ⟨hr a b hab, ?_⟩
    rw [Bool.not_eq_true', Bool.eq_false_iff]
    intro e
    simp only [Bool.and_eq_true, beq_iff_eq] at e
    obtain ⟨rfl, rfl⟩ := e
    have := folB_mono hr (h2 a b hab)
    rw [hf] at this
    cases this
theorem sim_init {n : Nat} {ss : List I3} {init : Int → Int → Bool} : SimR n ss init init := ⟨fun _ _ h => h, fun c h1 _ => h1⟩

end Go.Proofs.YtdgnhfhaaghoaaaGreatDoor

set_option linter.unusedVariables false
namespace Go.Proofs.YtdgnhfhaaghoaaaGreatDoor

/-- The reference: the ends of a state's steps with an action. -/
def nextA (ss : List I3) (i a : Int) : List Int := (ss.filter fun s => (s.1 == i) && (s.2.1 == a)).map fun s => s.2.2
theorem nextA_take {l : List I3} {k : Nat} (p a : Int) (h : k < l.length) : nextA (l.take (k + 1)) p a = if (l[k].1 == p) && (l[k].2.1 == a) then nextA (l.take k) p a ++ [l[k].2.2] else nextA (l.take k) p a := by
  unfold nextA
  rw [List.take_succ_eq_append_getElem h, List.filter_append, List.map_append]
  by_cases e : ((l[k].1 == p) && (l[k].2.1 == a)) <;> simp [e]
theorem nextA_len (l : List I3) (p a : Int) (k : Nat) : (nextA (l.take k) p a).length ≤ k := by
  unfold nextA
  rw [List.length_map]
  exact Nat.le_trans (List.length_filter_le _ _) (by rw [List.length_take]; omega)
theorem nextA_all (l : List I3) (p a : Int) : (nextA l p a).length ≤ l.length := by
  have := nextA_len l p a l.length
  rwa [List.take_length] at this

def inR (n : Nat) (a : Int) : Bool := decide (0 ≤ a) && decide (a < n)
/-- A table as a relation of numbers. -/
def relF (n : Nat) (f : Nat → Nat → Bool) (a b : Int) : Bool := inR n a && inR n b && f a.toNat b.toNat
theorem relF_at {n : Nat} {f : Nat → Nat → Bool} {i j : Nat} (hi : i < n) (hj : j < n) : relF n f i j = f i j := by
  have h1 : (i : Int) < n := by omega
  have h2 : (j : Int) < n := by omega
  simp [relF, inR, h1, h2, Int.natCast_nonneg]
theorem relF_in {n : Nat} {f : Nat → Nat → Bool} {a b : Int} (h : relF n f a b = true) : ∃ i j : Nat, a = (i : Int) ∧ b = (j : Int) ∧ i < n ∧ j < n ∧ f i j = true := by
  unfold relF inR at h
  simp only [Bool.and_eq_true, decide_eq_true_eq] at h
  exact ⟨a.toNat, b.toNat, by omega, by omega, by omega, by omega, h.2⟩

/-- A step of s is answered by one of t. -/
def ansB (ss : List I3) (t : Int) (rel : Int → Int → Bool) (a : I3) : Bool := (nextA ss t a.2.1).any fun x => rel a.2.2 x
theorem fol_ans {ss : List I3} {s t : Int} {rel : Int → Int → Bool} : folB ss s t rel = ss.all fun a => !(a.1 == s) || ansB ss t rel a := by
  unfold folB ansB nextA
  congr 1
  funext a
  congr 1
  rw [List.any_map, List.any_filter]
  rfl

end Go.Proofs.YtdgnhfhaaghoaaaGreatDoor

set_option linter.unusedVariables false
namespace Go.Proofs.YtdgnhfhaaghoaaaGreatDoor

theorem sorted_eqR {α : Type} {R : α → α → Prop} (asym : ∀ a b, R a b → ¬ R b a) : ∀ {a b : List α}, a.Pairwise R → b.Pairwise R → (∀ x, x ∈ a ↔ x ∈ b) → a = b
  | [], [], _, _, _ => rfl
  | [], y :: b, _, _, h => by have := (h y).2 (by simp); simp at this
  | x :: a, [], _, _, h => by have := (h x).1 (by simp); simp at this
  | x :: a, y :: b, ha, hb, h => by
    rw [List.pairwise_cons] at ha hb
    have hxy : x = y := by
      have h1 := (h x).1 (by simp)
      have h2 := (h y).2 (by simp)
      rcases List.mem_cons.1 h1 with e | e
      · exact e
      · rcases List.mem_cons.1 h2 with e2 | e2
        · exact e2.symm
        · exact absurd (ha.1 y e2) (asym _ _ (hb.1 x e))
    subst hxy
    have : a = b := sorted_eqR asym ha.2 hb.2 fun z => by
      constructor
      · intro hz
        rcases List.mem_cons.1 ((h z).1 (List.mem_cons_of_mem _ hz)) with e | e
        · subst e; exact absurd (ha.1 z hz) (asym _ _ (ha.1 z hz))
        · exact e
      · intro hz
        rcases List.mem_cons.1 ((h z).2 (List.mem_cons_of_mem _ hz)) with e | e
        · subst e; exact absurd (hb.1 z hz) (asym _ _ (hb.1 z hz))
        · exact e
    rw [this]

/-- Triples: one comes before another. -/
def ltT (a b : I3) : Bool := decide (a.1 < b.1) || (a.1 == b.1 && (decide (a.2.1 < b.2.1) || (a.2.1 == b.2.1 && decide (a.2.2 < b.2.2))))
theorem ltT_iff (a b : I3) : ltT a b = true ↔ a.1 < b.1 ∨ (a.1 = b.1 ∧ (a.2.1 < b.2.1 ∨ (a.2.1 = b.2.1 ∧ a.2.2 < b.2.2))) := by simp [ltT]
theorem ltT_asym (a b : I3) (h : ltT a b = true) : ¬ ltT b a = true := by
  rw [ltT_iff] at h ⊢
  omega
theorem ltT_trans (a b c : I3) (h : ltT a b = true) (k : ltT b c = true) : ltT a c = true := by
  rw [ltT_iff] at h k ⊢
  omega
theorem ltT_total (a b : I3) (h : ¬ ltT a b = true) (hne : a ≠ b) : ltT b a = true := by
  rw [ltT_iff] at h ⊢
  obtain ⟨a1, a2, a3⟩ := a
  obtain ⟨b1, b2, b3⟩ := b
  have : ¬ (a1 = b1 ∧ a2 = b2 ∧ a3 = b3) := fun e => hne (by rw [e.1, e.2.1, e.2.2])
  dsimp only at h ⊢
  omega

/-- A triple put to its place, once. -/
def putT (l : List I3) (x : I3) : List I3 := if l.contains x then l else l.takeWhile (fun y => ltT y x) ++ x :: l.dropWhile (fun y => ltT y x)
def sortT (l : List I3) : List I3 := l.foldl putT []
theorem putT_mem (l : List I3) (x y : I3) : y ∈ putT l x ↔ y ∈ l ∨ y = x := by
  unfold putT
  split
  · rename_i h
    constructor
    · exact .inl
    · rintro (h' | rfl)
      · exact h'
      · simpa using h
  · have : y ∈ l ↔ y ∈ l.takeWhile (fun y => ltT y x) ∨ y ∈ l.dropWhile (fun y => ltT y x) := by
      rw [← List.mem_append, List.takeWhile_append_dropWhile]
    rw [List.mem_append, List.mem_cons, this]
    constructor
    · rintro (h | h | h)
      · exact .inl (.inl h)
      · exact .inr h
      · exact .inl (.inr h)
    · rintro ((h | h) | h)
      · exact .inl h
      · exact .inr (.inr h)
      · exact .inr (.inl h)
theorem take_ltT {x : I3} : ∀ {l : List I3}, ∀ y ∈ l.takeWhile (fun y => ltT y x), ltT y x = true
  | [], y, h => by simp at h
  | z :: l, y, h => by
    rw [List.takeWhile_cons] at h
    split at h
    · rename_i hz
      rcases List.mem_cons.1 h with rfl | h
      · exact hz
      · exact take_ltT y h
    · simp at h
theorem drop_geT {x : I3} : ∀ {l : List I3}, l.Pairwise (fun a b => ltT a b = true) → ∀ y ∈ l.dropWhile (fun y => ltT y x), y = x ∨ ltT x y = true
  | [], _, y, h => by simp at h
  | z :: l, hp, y, h => by
    rw [List.dropWhile_cons] at h
    rw [List.pairwise_cons] at hp
    split at h
    · exact drop_geT hp.2 y h
    · rename_i hz
      have hz' : z = x ∨ ltT x z = true := by
        by_cases e : z = x
        · exact .inl e
        · exact .inr (ltT_total _ _ hz e)
      rcases List.mem_cons.1 h with rfl | h
      · exact hz'
      · have := hp.1 y h
        rcases hz' with rfl | e
        · exact .inr this
        · exact .inr (ltT_trans _ _ _ e this)
theorem putT_sorted {l : List I3} (x : I3) (h : l.Pairwise (fun a b => ltT a b = true)) : (putT l x).Pairwise (fun a b => ltT a b = true) := by
  unfold putT
  split
  · exact h
  · rename_i hx
    have hd := h.sublist (List.dropWhile_sublist (p := fun y => ltT y x) (l := l))
    have ht := h.sublist (List.takeWhile_sublist (p := fun y => ltT y x) (l := l))
    have hge : ∀ y ∈ l.dropWhile (fun y => ltT y x), ltT x y = true := by
      intro y hy
      rcases drop_geT h y hy with e | e
      · have h2 : y ∈ l := (List.dropWhile_sublist _).subset hy
        rw [e] at h2
        exact absurd (by simpa using h2) hx
      · exact e
    rw [List.pairwise_append, List.pairwise_cons]
    refine ⟨ht, ⟨hge, hd⟩, fun a ha b hb => ?_⟩
    have h1 := take_ltT a ha
    rcases List.mem_cons.1 hb with rfl | hb
    · exact h1
    · exact ltT_trans _ _ _ h1 (hge b hb)
theorem fold_putT : ∀ (ss o : List I3), o.Pairwise (fun a b => ltT a b = true) → (ss.foldl putT o).Pairwise (fun a b => ltT a b = true) ∧ ∀ x, x ∈ ss.foldl putT o ↔ x ∈ o ∨ x ∈ ss
  | [], o, h => ⟨h, fun x => by simp⟩
  | s :: ss, o, h => by
    obtain ⟨h1, h2⟩ := fold_putT ss (putT o s) (putT_sorted s h)
    refine ⟨h1, fun x => ?_⟩
    rw [List.foldl_cons, h2 x, putT_mem, List.mem_cons]
    constructor
    · rintro ((h | h) | h)
      · exact .inl h
      · exact .inr (.inl h)
      · exact .inr (.inr h)
    · rintro (h | h | h)
      · exact .inl (.inl h)
      · exact .inl (.inr h)
      · exact .inr h
theorem sortT_sorted (l : List I3) : (sortT l).Pairwise (fun a b => ltT a b = true) := (fold_putT l [] List.Pairwise.nil).1
theorem sortT_mem (l : List I3) (x : I3) : x ∈ sortT l ↔ x ∈ l := by
  have := (fold_putT l [] List.Pairwise.nil).2 x
  simpa [sortT] using this
theorem sortT_of {l o : List I3} (h : o.Pairwise (fun a b => ltT a b = true)) (hm : ∀ x, x ∈ o ↔ x ∈ l) : o = sortT l :=
  sorted_eqR ltT_asym h (sortT_sorted l) fun x => (hm x).trans (sortT_mem l x).symm
theorem sortT_eq {a b : List I3} : sortT a = sortT b ↔ ∀ x, x ∈ a ↔ x ∈ b := by
  constructor
  · intro h x
    rw [← sortT_mem a, h, sortT_mem]
  · intro h
    exact sortT_of (sortT_sorted a) fun x => (sortT_mem a x).trans (h x)

def setOf (ss : List I3) (parts : List Int) (i a : Int) : List Int := (nextA ss i a).foldl (fun o s => putI o (atP parts s)) []
theorem fold_putI (parts : List Int) : ∀ (ls o : List Int), o.Pairwise (· < ·) → (ls.foldl (fun o s => putI o (atP parts s)) o).Pairwise (· < ·) ∧ ∀ x, x ∈ ls.foldl (fun o s => putI o (atP parts s)) o ↔ x ∈ o ∨ ∃ s ∈ ls, atP parts s = x
  | [], o, h => ⟨h, fun x => by simp⟩
  | s :: ls, o, h => by
    obtain ⟨h1, h2⟩ := fold_putI parts ls (putI o (atP parts s)) (putI_sorted _ h)
    refine ⟨h1, fun x => ?_⟩
    rw [List.foldl_cons, h2 x, putI_mem]
    constructor
    · rintro ((h | h) | ⟨t, ht, h⟩)
      · exact .inl h
      · exact .inr ⟨s, by simp, h.symm⟩
      · exact .inr ⟨t, by simp [ht], h⟩
    · rintro (h | ⟨t, ht, h⟩)
      · exact .inl (.inl h)
      · rcases List.mem_cons.1 ht with rfl | ht
        · exact .inl (.inr h.symm)
        · exact .inr ⟨t, ht, h⟩
theorem setOf_sorted (ss : List I3) (parts : List Int) (i a : Int) : (setOf ss parts i a).Pairwise (· < ·) := (fold_putI parts _ [] List.Pairwise.nil).1
theorem setOf_mem {ss : List I3} {parts : List Int} {i a x : Int} : x ∈ setOf ss parts i a ↔ ∃ s ∈ ss, s.1 = i ∧ s.2.1 = a ∧ atP parts s.2.2 = x := by
  have := (fold_putI parts (nextA ss i a) [] List.Pairwise.nil).2 x
  unfold setOf
  rw [this]
  simp only [List.not_mem_nil, false_or]
  unfold nextA
  constructor
  · rintro ⟨t, ht, h⟩
    rw [List.mem_map] at ht
    obtain ⟨s, hs, rfl⟩ := ht
    rw [List.mem_filter] at hs
    simp only [Bool.and_eq_true, beq_iff_eq] at hs
    exact ⟨s, hs.1, hs.2.1, hs.2.2, h⟩
  · rintro ⟨s, hs, h1, h2, h3⟩
    exact ⟨s.2.2, List.mem_map.2 ⟨s, List.mem_filter.2 ⟨hs, by simp [h1, h2]⟩, rfl⟩, h3⟩

def signL (ss : List I3) (parts : List Int) (i : Nat) : List Int := parts.getD i 0 :: (List.range 8).flatMap fun (a : Nat) => -1 :: setOf ss parts (i : Int) (a : Int)

theorem seamI : ∀ {x y r s : List Int}, (∀ b ∈ x, 0 ≤ b) → (∀ b ∈ y, 0 ≤ b) → (∀ b t, r = b :: t → b = -1) → (∀ b t, s = b :: t → b = -1) → x ++ r = y ++ s → x = y ∧ r = s
  | [], [], r, s, _, _, _, _, h => ⟨rfl, h⟩
  | [], b :: y, r, s, _, hy, hr, _, h => by
    have := hr b (y ++ s) (by simpa using h)
    have := hy b (by simp)
    omega
  | a :: x, [], r, s, hx, _, _, hs, h => by
    have := hs a (x ++ r) (by simpa using h.symm)
    have := hx a (by simp)
    omega
  | a :: x, b :: y, r, s, hx, hy, hr, hs, h => by
    simp only [List.cons_append, List.cons.injEq] at h
    obtain ⟨h1, h2⟩ := seamI (fun c hc => hx c (List.mem_cons_of_mem _ hc)) (fun c hc => hy c (List.mem_cons_of_mem _ hc)) hr hs h.2
    exact ⟨by rw [h.1, h1], h2⟩
theorem blocks_inj {A B : Nat → List Int} (hA : ∀ a, ∀ x ∈ A a, 0 ≤ x) (hB : ∀ a, ∀ x ∈ B a, 0 ≤ x) : ∀ {l : List Nat}, (l.flatMap fun a => -1 :: A a) = (l.flatMap fun a => -1 :: B a) → ∀ a ∈ l, A a = B a
  | [], _, a, ha => by simp at ha
  | c :: l, h, a, ha => by
    have hst : ∀ (C : Nat → List Int) (l : List Nat) b t, (l.flatMap fun a => -1 :: C a) = b :: t → b = -1 := by
      intro C l b t e
      cases l with
      | nil => simp at e
      | cons d l => simp at e; exact e.1.symm
    rw [List.flatMap_cons, List.flatMap_cons] at h
    simp only [List.cons_append, List.cons.injEq, true_and] at h
    obtain ⟨h1, h2⟩ := seamI (hA c) (hB c) (hst A l) (hst B l) h
    rcases List.mem_cons.1 ha with rfl | ha
    · exact h1
    · exact blocks_inj hA hB h2 a ha

theorem next_set {ss : List I3} {parts : List Int} {i j : Nat} (h : ∀ a : Int, ∀ x, x ∈ setOf ss parts (i : Int) a → x ∈ setOf ss parts (j : Int) a) : nextB ss parts i j = true := by
  rw [nextB_iff]
  intro s hs e
  obtain ⟨t, ht, h1, h2, h3⟩ := setOf_mem.1 (h s.2.1 (atP parts s.2.2) (setOf_mem.2 ⟨s, hs, e, rfl, rfl⟩))
  exact ⟨t, ht, h1, h2, h3⟩
theorem set_next {ss : List I3} {parts : List Int} {i j : Nat} (h : nextB ss parts i j = true) (a x : Int) (hx : x ∈ setOf ss parts (i : Int) a) : x ∈ setOf ss parts (j : Int) a := by
  rw [nextB_iff] at h
  obtain ⟨s, hs, h1, h2, h3⟩ := setOf_mem.1 hx
  obtain ⟨t, ht, k1, k2, k3⟩ := h s hs h1
  exact setOf_mem.2 ⟨t, ht, k1, k2.trans h2, k3.trans h3⟩

theorem sign_iff {ss : List I3} {parts : List Int} {i j : Nat} (hs : ∀ s ∈ ss, 0 ≤ s.2.1 ∧ s.2.1 < 8) (hp : ∀ k, 0 ≤ atP parts k) : signL ss parts i = signL ss parts j ↔ sigB ss parts i j = true := by
  have hpos : ∀ (i a : Int), ∀ x ∈ setOf ss parts i a, 0 ≤ x := by
    intro i a x hx
    obtain ⟨s, _, _, _, rfl⟩ := setOf_mem.1 hx
    exact hp _
  rw [sigB_iff]
  constructor
  · intro h
    unfold signL at h
    rw [List.cons.injEq] at h
    have hb := blocks_inj (A := fun a => setOf ss parts (i : Int) (a : Int)) (B := fun a => setOf ss parts (j : Int) (a : Int)) (fun a => hpos _ _) (fun a => hpos _ _) h.2
    have hall : ∀ a : Int, (∃ s ∈ ss, s.2.1 = a) → setOf ss parts (i : Int) a = setOf ss parts (j : Int) a := by
      rintro a ⟨s, h1, rfl⟩
      have h2 := hs s h1
      obtain ⟨q, hq⟩ := Int.eq_ofNat_of_zero_le h2.1
      rw [hq]
      exact hb q (List.mem_range.2 (by omega))
    refine ⟨h.1, next_set fun a x hx => ?_, next_set fun a x hx => ?_⟩
    · obtain ⟨s, h1, h2, h3, h4⟩ := setOf_mem.1 hx
      rw [← hall a ⟨s, h1, h3⟩]; exact hx
    · obtain ⟨s, h1, h2, h3, h4⟩ := setOf_mem.1 hx
      rw [hall a ⟨s, h1, h3⟩]; exact hx
  · rintro ⟨h1, h2, h3⟩
    have hset : ∀ a : Int, setOf ss parts (i : Int) a = setOf ss parts (j : Int) a := fun a =>
      sorted_eqR (R := fun (a b : Int) => a < b) (fun a b h => by omega) (setOf_sorted _ _ _ _) (setOf_sorted _ _ _ _) fun x => ⟨set_next h2 a x, set_next h3 a x⟩
    unfold signL
    rw [h1]
    congr 1
    simp only [hset]

/-- The program: of a state's steps the actions and the ends' parts. -/
def ownL (ss : List I3) (parts : List Int) (i : Int) : List I3 := (ss.filter fun s => s.1 == i).map fun s => (0, s.2.1, atP parts s.2.2)
theorem ownL_mem {ss : List I3} {parts : List Int} {i : Int} {x : I3} : x ∈ ownL ss parts i ↔ ∃ s ∈ ss, s.1 = i ∧ x = (0, s.2.1, atP parts s.2.2) := by
  unfold ownL
  rw [List.mem_map]
  constructor
  · rintro ⟨s, hs, rfl⟩
    rw [List.mem_filter] at hs
    exact ⟨s, hs.1, by simpa using hs.2, rfl⟩
  · rintro ⟨s, hs, h1, rfl⟩
    exact ⟨s, List.mem_filter.2 ⟨hs, by simpa using h1⟩, rfl⟩
theorem own_iff {ss : List I3} {parts : List Int} {i j : Nat} : (parts.getD i 0 = parts.getD j 0 ∧ sortT (ownL ss parts i) = sortT (ownL ss parts j)) ↔ sigB ss parts i j = true := by
  rw [sigB_iff, sortT_eq]
  have hnx : ∀ i j : Nat, nextB ss parts i j = true ↔ ∀ x, x ∈ ownL ss parts (i : Int) → x ∈ ownL ss parts (j : Int) := by
    intro i j
    rw [nextB_iff]
    constructor
    · intro h x hx
      obtain ⟨s, hs, h1, rfl⟩ := ownL_mem.1 hx
      obtain ⟨t, ht, k1, k2, k3⟩ := h s hs h1
      exact ownL_mem.2 ⟨t, ht, k1, by rw [k2, k3]⟩
    · intro h s hs h1
      obtain ⟨t, ht, k1, k2⟩ := ownL_mem.1 (h _ (ownL_mem.2 ⟨s, hs, h1, rfl⟩))
      simp only [Prod.mk.injEq] at k2
      exact ⟨t, ht, k1, k2.2.1.symm, k2.2.2.symm⟩
  rw [hnx i j, hnx j i]
  constructor
  · rintro ⟨h1, h2⟩
    exact ⟨h1, fun x hx => (h2 x).1 hx, fun x hx => (h2 x).2 hx⟩
  · rintro ⟨h1, h2, h3⟩
    exact ⟨h1, fun x => ⟨h2 x, h3 x⟩⟩
def lookL (d : Int → List UInt8) (ss : List I3) (parts : List Int) (i : Nat) : List UInt8 := lookT d (parts.getD i 0) ((sortT (ownL ss parts (i : Int))).map fun x => x.2)
theorem own_zero {ss : List I3} {parts : List Int} {i : Int} : ∀ x ∈ sortT (ownL ss parts i), x.1 = 0 := by
  intro x hx
  obtain ⟨s, _, _, rfl⟩ := ownL_mem.1 ((sortT_mem _ _).1 hx)
  rfl
theorem map_snd_inj : ∀ {a b : List I3}, (∀ x ∈ a, x.1 = 0) → (∀ x ∈ b, x.1 = 0) → a.map (fun x => x.2) = b.map (fun x => x.2) → a = b
  | [], [], _, _, _ => rfl
  | [], y :: b, _, _, h => by simp at h
  | x :: a, [], _, _, h => by simp at h
  | x :: a, y :: b, ha, hb, h => by
    simp only [List.map_cons, List.cons.injEq] at h
    have h1 := map_snd_inj (fun z hz => ha z (List.mem_cons_of_mem _ hz)) (fun z hz => hb z (List.mem_cons_of_mem _ hz)) h.2
    have h2 : x = y := Prod.ext ((ha x (by simp)).trans (hb y (by simp)).symm) h.1
    rw [h1, h2]
theorem look_iff {d : Int → List UInt8} (hd : NumText d) {ss : List I3} {parts : List Int} {i j : Nat} : lookL d ss parts i = lookL d ss parts j ↔ sigB ss parts i j = true := by
  rw [← own_iff]
  constructor
  · intro h
    obtain ⟨h1, h2⟩ := look_inj hd h
    exact ⟨h1, map_snd_inj own_zero own_zero h2⟩
  · rintro ⟨h1, h2⟩
    unfold lookL
    rw [h1, h2]

end Go.Proofs.YtdgnhfhaaghoaaaGreatDoor
