/- Plain: names that ascend strictly are different from one another, and none is empty. Names put in order, each once: by insertion. No program is in sight. Rows of one's own: what keeps them apart. No program is in sight. -/
import Derived.Test.YtijkdpdmclkmlaaGreatDoorProg
import Derived.Test.YtijkdpdmclkmlaaGreatDoorJ8
import Derived.Test.YtijkdpdmclkmlaaGreatDoorJ0
import Derived.Test.YtijkdpdmclkmlaaGreatDoorJ2
set_option linter.unusedSimpArgs false
set_option linter.unusedVariables false
set_option maxRecDepth 100000
set_option maxHeartbeats 16000000
namespace Go.Proofs.YtijkdpdmclkmlaaGreatDoor
open Go.RowKit
theorem bytes_trans : ∀ (x y z : List UInt8), Op.bytesLess x y = true → Op.bytesLess y z = true → Op.bytesLess x z = true
  | [], [], _, h, _ => by simp [Op.bytesLess] at h
  | _ :: _, [], _, h, _ => by simp [Op.bytesLess] at h
  | _, _ :: _, [], _, h => by simp [Op.bytesLess] at h
  | [], _ :: _, _ :: _, _, _ => by simp [Op.bytesLess]
  | a :: x, b :: y, c :: z, h1, h2 => by
    simp only [Op.bytesLess, Bool.or_eq_true, Bool.and_eq_true, decide_eq_true_eq, beq_iff_eq] at h1 h2 ⊢
    rcases h1 with h1 | ⟨rfl, h1⟩
    · rcases h2 with h2 | ⟨rfl, h2⟩
      · left
        rw [UInt8.lt_iff_toNat_lt] at h1 h2 ⊢
        omega
      exact .inl h1
    rcases h2 with h2 | ⟨rfl, h2⟩
    · exact .inl h2
    exact .inr ⟨rfl, bytes_trans x y z h1 h2⟩
theorem less_trans {a b c : ByteArray} (h1 : lessS a b = true) (h2 : lessS b c = true) : lessS a c = true := bytes_trans _ _ _ h1 h2
theorem less_ne {a b : ByteArray} (h : lessS a b = true) : a ≠ b := fun e => by
  subst e
  unfold lessS at h
  rw [bytes_irr] at h
  cases h
theorem names_at {l : List ByteArray} (h : namesB l = true) {i : Nat} (hi : i < l.length) : nameB (l.getD i default) = true ∧ (i ≠ 0 → lessS (l.getD (i - 1) default) (l.getD i default) = true) := by
  unfold namesB at h
  rw [Bool.and_eq_true] at h
  have h1 := allR_get h.1 hi
  unfold nameAt at h1
  rw [Bool.and_eq_true, Bool.or_eq_true, beq_iff_eq] at h1
  exact ⟨h1.1, fun h0 => h1.2.resolve_left h0⟩
theorem names_lt {l : List ByteArray} (h : namesB l = true) : ∀ (j i : Nat), i < j → j < l.length → lessS (l.getD i default) (l.getD j default) = true
  | 0, i, h1, _ => by omega
  | j + 1, i, h1, h2 => by
    have h3 := (names_at h h2).2 (by omega)
    rw [Nat.add_sub_cancel] at h3
    by_cases he : i = j
    · subst he; exact h3
    exact less_trans (names_lt h j i (by omega) (by omega)) h3
theorem name_ne {s : ByteArray} (h : nameB s = true) : s ≠ bE := fun e => by
  subst e
  unfold nameB at h
  rw [Bool.and_eq_true] at h
  have := inB_true h.1
  have h0 : (bE.size : Int) = 0 := rfl
  omega
theorem names_np {l : List ByteArray} (h : namesB l = true) : NamesP l := by
  refine ⟨?_, ?_⟩
  · rw [List.Nodup, List.pairwise_iff_getElem]
    intro i j hi hj hij e
    have a1 : l.getD i default = l[i] := getD_some (List.getElem?_eq_getElem hi)
    have a2 : l.getD j default = l[j] := getD_some (List.getElem?_eq_getElem hj)
    have h1 := names_lt h j i hij hj
    rw [a1, a2] at h1
    exact less_ne h1 e
  rw [mem_getD (d := default)]
  exact fun i hi => name_ne (names_at h hi).1
theorem names_len {l : List ByteArray} (h : namesB l = true) : l.length ≤ 16 := by
  unfold namesB at h
  rw [Bool.and_eq_true, decide_eq_true_eq] at h
  exact h.2
/-- For valid bigraphs that fit, both packages make the composition. -/
theorem both_comp {sig : List Ct} {a b : Gr} (ha : GoodP sig a) (hb : GoodP sig b) (hf : FitsP a b) : composedG a b a.outer = compG a b ∧ afterG a b = compG a b :=
  ⟨composed_eq ha hb hf (names_np ha.on) (names_np ha.inn).nd (names_np hb.on), after_eq ha hb hf (names_np ha.on)⟩

def lowN (s : ByteArray) : List ByteArray → Nat
  | [] => 0
  | y :: r => if lessS y s then lowN s r + 1 else 0
def putS (o : List ByteArray) (s : ByteArray) : List ByteArray := if lowN s o = o.length ∨ o.getD (lowN s o) default ≠ s then o.take (lowN s o) ++ [s] ++ o.drop (lowN s o) else o
def sortS (l : List ByteArray) : List ByteArray := l.foldl putS []

theorem low_le (s : ByteArray) : ∀ o : List ByteArray, lowN s o ≤ o.length
  | [] => Nat.le_refl _
  | y :: r => by
    have := low_le s r
    unfold lowN
    split
    · simp; omega
    simp
theorem low_lt (s : ByteArray) : ∀ (o : List ByteArray) (j : Nat), j < lowN s o → lessS (o.getD j default) s = true
  | [], j, h => by simp [lowN] at h
  | y :: r, j, h => by
    unfold lowN at h
    split at h
    · rename_i hy
      cases j with
      | zero => exact hy
      | succ j => exact low_lt s r j (by omega)
    omega
theorem low_at (s : ByteArray) : ∀ (o : List ByteArray), lowN s o < o.length → lessS (o.getD (lowN s o) default) s = false
  | [], h => by simp at h
  | y :: r, h => by
    unfold lowN at h ⊢
    split
    · rename_i hy
      rw [if_pos hy] at h
      exact low_at s r (by simpa using h)
    rename_i hy
    simpa using hy
theorem low_of {s : ByteArray} {o : List ByteArray} {m : Nat} (hm : m ≤ o.length) (h1 : ∀ j, j < m → lessS (o.getD j default) s = true) (h2 : m < o.length → lessS (o.getD m default) s = false) : m = lowN s o := by
  rcases Nat.lt_trichotomy m (lowN s o) with h | h | h
  · have a := low_lt s o m h
    rw [h2 (by have := low_le s o; omega)] at a
    cases a
  · exact h
  have a := low_at s o (by omega)
  rw [h1 _ h] at a
  cases a
theorem put_len (o : List ByteArray) (s : ByteArray) : (putS o s).length ≤ o.length + 1 := by
  unfold putS
  split
  · have := low_le s o
    simp; omega
  omega
theorem put_mem {o : List ByteArray} {s x : ByteArray} : x ∈ putS o s ↔ x ∈ o ∨ x = s := by
  unfold putS
  split
  · rw [List.append_assoc, List.mem_append, List.mem_append, List.mem_singleton]
    have h := @List.take_append_drop ByteArray (lowN s o) o
    constructor
    · rintro (h1 | h1 | h1)
      · exact .inl (List.mem_of_mem_take h1)
      · exact .inr h1
      exact .inl (List.mem_of_mem_drop h1)
    rintro (h1 | h1)
    · rw [← h, List.mem_append] at h1
      rcases h1 with h1 | h1
      · exact .inl h1
      exact .inr (.inr h1)
    exact .inr (.inl h1)
  rename_i h
  have h1 : ¬ lowN s o = o.length := fun e => h (.inl e)
  have h2 : o.getD (lowN s o) default = s := Classical.byContradiction fun e => h (.inr e)
  constructor
  · exact .inl
  rintro (h3 | rfl)
  · exact h3
  have hl : lowN x o < o.length := by have := low_le x o; omega
  rw [← h2]
  exact List.mem_of_getElem? (getD_lt hl)
theorem sortS_next {l : List ByteArray} {k : Nat} (h : k < l.length) : sortS (l.take (k + 1)) = putS (sortS (l.take k)) (l.getD k default) := by
  unfold sortS
  rw [List.take_add_one, getD_lt (d := default) h, List.foldl_append]
  rfl
theorem foldl_len : ∀ (l o : List ByteArray), (l.foldl putS o).length ≤ o.length + l.length
  | [], o => by simp
  | s :: l, o => by
    have h1 := foldl_len l (putS o s)
    have h2 := put_len o s
    simp only [List.foldl_cons, List.length_cons]
    omega
theorem sortS_len (l : List ByteArray) : (sortS l).length ≤ l.length := by
  have := foldl_len l []
  unfold sortS
  simpa using this
theorem foldl_mem {x : ByteArray} : ∀ {l o : List ByteArray}, x ∈ l.foldl putS o ↔ x ∈ o ∨ x ∈ l
  | [], o => by simp
  | s :: l, o => by
    rw [List.foldl_cons, foldl_mem (l := l), put_mem, List.mem_cons]
    constructor
    · rintro ((h | h) | h)
      · exact .inl h
      · exact .inr (.inl h)
      exact .inr (.inr h)
    rintro (h | h | h)
    · exact .inl (.inl h)
    · exact .inl (.inr h)
    exact .inr h
theorem sortS_mem {x : ByteArray} {l : List ByteArray} : x ∈ sortS l ↔ x ∈ l := by
  unfold sortS
  rw [foldl_mem]
  simp

/-- Strictly ascending. -/
def AscS (l : List ByteArray) : Prop := l.Pairwise fun x y => lessS x y = true
theorem less_irr (x : ByteArray) : lessS x x = false := bytes_irr _
theorem less_asym {x y : ByteArray} (h : lessS x y = true) : lessS y x = false := bytes_asym _ _ h
theorem less_total {x y : ByteArray} (h1 : lessS x y = false) (h2 : lessS y x = false) : x = y := toList_inj (bytes_total _ _ h1 h2)
theorem asc_at {l : List ByteArray} (h : AscS l) {i j : Nat} (hij : i < j) (hj : j < l.length) : lessS (l.getD i default) (l.getD j default) = true := by
  have := List.pairwise_iff_getElem.1 h i j (by omega) hj hij
  rwa [List.getD_eq_getElem?_getD, List.getD_eq_getElem?_getD, List.getElem?_eq_getElem (by omega), List.getElem?_eq_getElem hj]
theorem put_asc {o : List ByteArray} {s : ByteArray} (h : AscS o) : AscS (putS o s) := by
  unfold putS
  split
  · rename_i hc
    unfold AscS
    rw [List.append_assoc, List.pairwise_append]
    have hin1 : ∀ x ∈ o.take (lowN s o), lessS x s = true := fun x hx => by
      obtain ⟨j, hj, e⟩ := List.getElem_of_mem hx
      rw [List.length_take] at hj
      have := low_lt s o j (by omega)
      rw [List.getD_eq_getElem?_getD, List.getElem?_eq_getElem (by omega)] at this
      rw [List.getElem_take] at e
      rw [← e]; exact this
    have hin2 : ∀ x ∈ o.drop (lowN s o), lessS s x = true := fun x hx => by
      obtain ⟨j, hj, e⟩ := List.getElem_of_mem hx
      rw [List.length_drop] at hj
      rw [List.getElem_drop] at e
      have hl : lowN s o < o.length := by omega
      have h0 : lessS s (o.getD (lowN s o) default) = true := by
        cases hs : lessS s (o.getD (lowN s o) default) with
        | true => rfl
        | false =>
          have := less_total hs (low_at s o hl)
          rcases hc with hc | hc
          · omega
          exact absurd this.symm hc
      rcases Nat.eq_zero_or_pos j with rfl | hj0
      · rw [← e]
        rw [List.getD_eq_getElem?_getD, List.getElem?_eq_getElem hl] at h0
        exact h0
      have h3 := asc_at h (i := lowN s o) (j := lowN s o + j) (by omega) (by omega)
      have h4 := less_trans h0 h3
      rw [List.getD_eq_getElem?_getD, List.getElem?_eq_getElem (by omega)] at h4
      rw [← e]; exact h4
    refine ⟨h.sublist (List.take_sublist _ _), ?_, fun x hx y hy => ?_⟩
    · rw [List.singleton_append, List.pairwise_cons]
      exact ⟨hin2, h.sublist (List.drop_sublist _ _)⟩
    rw [List.singleton_append, List.mem_cons] at hy
    rcases hy with rfl | hy
    · exact hin1 x hx
    exact less_trans (hin1 x hx) (hin2 y hy)
  exact h
theorem foldl_asc : ∀ {l o : List ByteArray}, AscS o → AscS (l.foldl putS o)
  | [], _, h => h
  | s :: l, o, h => foldl_asc (l := l) (put_asc h)
theorem sortS_asc (l : List ByteArray) : AscS (sortS l) := foldl_asc List.Pairwise.nil
/-- Two strictly ascending lists with the same members are one. -/
theorem asc_ext : ∀ {l m : List ByteArray}, AscS l → AscS m → (∀ x, x ∈ l ↔ x ∈ m) → l = m
  | [], [], _, _, _ => rfl
  | [], y :: m, _, _, h => by have := (h y).2 List.mem_cons_self; simp at this
  | x :: l, [], _, _, h => by have := (h x).1 List.mem_cons_self; simp at this
  | x :: l, y :: m, hl, hm, h => by
    have hl' := List.pairwise_cons.1 hl
    have hm' := List.pairwise_cons.1 hm
    have hxy : x = y := by
      rcases List.mem_cons.1 ((h x).1 List.mem_cons_self) with e | e
      · exact e
      rcases List.mem_cons.1 ((h y).2 List.mem_cons_self) with e' | e'
      · exact e'.symm
      have a := hm'.1 x e
      have b := hl'.1 y e'
      rw [less_asym a] at b
      cases b
    subst hxy
    congr 1
    refine asc_ext hl'.2 hm'.2 fun z => ⟨fun hz => ?_, fun hz => ?_⟩
    · rcases List.mem_cons.1 ((h z).1 (List.mem_cons_of_mem _ hz)) with e | e
      · subst e
        have := hl'.1 z hz
        rw [less_irr] at this
        cases this
      exact e
    rcases List.mem_cons.1 ((h z).2 (List.mem_cons_of_mem _ hz)) with e | e
    · subst e
      have := hm'.1 z hz
      rw [less_irr] at this
      cases this
    exact e
theorem sortS_same {l : List ByteArray} (h : AscS l) : sortS l = l := asc_ext (sortS_asc l) h fun _ => sortS_mem

section
variable {w w' : World} {B B1 B2 : Nat} {e e1 e2 : TypeId} {s s1 s2 : Nat} {v v1 v2 : Value} {n n1 n2 : Nat} {xs xs1 xs2 : List Value}
theorem ownsK {S : Nat → Prop} (h : w.ownsRow B e s v n xs) (hk : Kept S w w') (hd : ∀ g, v.ownBlock = some g → ¬ S g) : w'.ownsRow B e s v n xs := by
  refine ⟨h.1, ?_⟩
  rcases h.2 with hn | ⟨g, cap, cur, rfl, hbg, hg, rest⟩
  · exact .inl hn
  have := (Array.getElem?_eq_some_iff.1 hg).1
  exact .inr ⟨g, cap, cur, rfl, hbg, by rw [hk.block g this (hd g rfl)]; exact hg, rest⟩
theorem ownsA (h1 : w.ownsRow B1 e1 s1 v1 n1 xs1) (h2 : w.ownsRow B2 e2 s2 v2 n2 xs2) (he : e1 ≠ e2) (g : Nat) (hg : v1.ownBlock = some g) : v2.ownBlock ≠ some g := by
  intro hg2
  rcases h1.2 with ⟨rfl, _⟩ | ⟨g1, _, _, rfl, _, a1, _⟩
  · simp [Value.ownBlock] at hg
  rcases h2.2 with ⟨rfl, _⟩ | ⟨g2, _, _, rfl, _, a2, _⟩
  · simp [Value.ownBlock] at hg2
  simp only [Value.ownBlock, Option.some.injEq] at hg hg2
  subst hg
  subst hg2
  rw [a1] at a2
  injection a2 with a2
  injection a2 with _ a2 _
  exact he a2
theorem ownsT {b : Nat} {cs : Array Value} {t : TypeId} (h : w.ownsRow B e s v n xs) (hb : w.heap[b]? = some (.cells cs t)) (hne : e ≠ t) : v.ownBlock ≠ some b := by
  intro hv
  rcases h.2 with ⟨rfl, _⟩ | ⟨g, _, _, rfl, _, a, _⟩
  · simp [Value.ownBlock] at hv
  simp only [Value.ownBlock, Option.some.injEq] at hv
  subst hv
  rw [hb] at a
  injection a with a
  injection a with _ a _
  exact hne a.symm
/-- A slice of a row, from its beginning on. -/
theorem ownsTake {A : Option Addr} {c m : Nat} (h : w.ownsRow B e s (.slice A n c) n xs) (hm : m ≤ n) : w.ownsRow B e s (.slice A m c) m (xs.take (m * s)) := by
  obtain ⟨h1, h2⟩ := h
  have hms : m * s ≤ n * s := Nat.mul_le_mul_right _ hm
  rcases h2 with ⟨e2, hn⟩ | ⟨g, cap, cur, e2, hb, hg, hc, hcap, hl, ht⟩
  · cases hn
    cases e2
    obtain rfl : m = 0 := by omega
    refine ⟨by simp, .inl ⟨rfl, rfl⟩⟩
  cases e2
  refine ⟨by rw [List.length_take, h1]; omega, .inr ⟨g, c, cur, rfl, hb, hg, by omega, hcap, hl, ?_⟩⟩
  rw [← ht, List.take_take, Nat.min_eq_left hms]
/-- A row laid as it is. -/
theorem ownsNew (w : World) (cs : List Value) (e : TypeId) (s n : Nat) (hl : cs.length = n * s) (hn : n ≤ maxLen) : (w.alloc (.cells cs.toArray e)).ownsRow w.heap.size e s (.slice (some ⟨w.heap.size, 0, none⟩) n n) n cs :=
  ⟨hl, .inr ⟨w.heap.size, n, cs.toArray, rfl, Nat.le_refl _, heap_alloc_new _ _, Nat.le_refl _, hn, by simpa using hl, by rw [← hl]; simp⟩⟩

end

end Go.Proofs.YtijkdpdmclkmlaaGreatDoor
