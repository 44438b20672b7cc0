/- The plain law of composition: what a composition is, when it is valid, that it is associative, and identities. The plain law of composition, second part: what the program makes, and what the reference makes, is the composition. Names put in order, each once: by insertion. No program is in sight. A region that draws its order, by what holds while it is under way: each operation is shown once, whatever came before it. No program is in sight. -/
import Derived.Test.YtijkdpdmclkmlaaGreatDoorProg
import Derived.Test.YtijkdpdmclkmlaaGreatDoorJ7
import Derived.RegionTactic
import Derived.WalkKit
import Derived.NoCompiler
set_option linter.unusedSimpArgs false
set_option linter.unusedVariables false
namespace Go.Proofs.YtijkdpdmclkmlaaGreatDoor
open Go.RowKit

theorem getD_some {α : Type} {l : List α} {i : Nat} {x d : α} (h : l[i]? = some x) : l.getD i d = x := by rw [List.getD_eq_getElem?_getD, h]; rfl
theorem getD_lt {α : Type} {l : List α} {i : Nat} {d : α} (h : i < l.length) : l[i]? = some (l.getD i d) := by rw [List.getD_eq_getElem?_getD, List.getElem?_eq_getElem h]; rfl

def LinkP (g : Gr) (l : Int) : Prop := 0 ≤ l ∧ l < g.edges + g.outer.length
def UnderP (sig : List Ct) (g : Gr) (p below : Int) : Prop := (p < 0 → -g.roots ≤ p) ∧ (0 ≤ p → p < below ∧ kindA sig (nodA g p.toNat).1 ≠ 2)
/-- What a valid bigraph is, told by its places. -/
structure GoodP (sig : List Ct) (g : Gr) : Prop where
  sg : sigB sig = true
  r : 0 ≤ g.roots ∧ g.roots ≤ 4
  n8 : g.nodes.length ≤ 8
  s4 : g.sites.length ≤ 4
  e : 0 ≤ g.edges ∧ g.edges ≤ 8
  on : namesB g.outer = true
  inn : namesB (innerN g) = true
  nod : ∀ (i : Nat) (x : Nod), g.nodes[i]? = some x → (0 ≤ x.1 ∧ x.1 < sig.length) ∧ UnderP sig g x.2.1 i ∧ (x.2.2.length : Int) = portsA sig x.1 ∧ ∀ l ∈ x.2.2, LinkP g l
  sit : ∀ p ∈ g.sites, UnderP sig g p g.nodes.length
  inr : ∀ x ∈ g.inner, LinkP g x.2
theorem link_iff (g : Gr) (l : Int) : linkB g l = true ↔ LinkP g l := by
  unfold linkB inB LinkP
  simp
  omega
theorem under_iff (sig : List Ct) (g : Gr) (p below : Int) : underB sig g p below = true ↔ UnderP sig g p below := by
  unfold underB UnderP
  by_cases h : p < 0
  · simp [h]; omega
  · simp [h]; omega
theorem mem_getD {α : Type} {l : List α} {d : α} {P : α → Prop} : (∀ x ∈ l, P x) ↔ ∀ i, i < l.length → P (l.getD i d) := by
  constructor
  · intro h i hi
    exact h _ (List.mem_of_getElem? (getD_lt hi))
  · intro h x hx
    obtain ⟨i, hi, e⟩ := List.getElem_of_mem hx
    have := h i hi
    rw [getD_some (x := x) (by rw [List.getElem?_eq_getElem hi, e])] at this
    exact this
theorem allR_iff {n : Nat} {p : Nat → Bool} : allR n p = true ↔ ∀ j, j < n → p j = true := ⟨fun h j hj => allR_get h hj, allR_true⟩
theorem nod_iff (sig : List Ct) (g : Gr) (i : Nat) : nodB sig g i = true ↔ (0 ≤ (nodA g i).1 ∧ (nodA g i).1 < sig.length) ∧ UnderP sig g (nodA g i).2.1 i ∧ ((nodA g i).2.2.length : Int) = portsA sig (nodA g i).1 ∧ ∀ l ∈ (nodA g i).2.2, LinkP g l := by
  unfold nodB
  rw [Bool.and_eq_true, Bool.and_eq_true, Bool.and_eq_true, under_iff, allR_iff, mem_getD (d := 0)]
  simp only [link_iff, beq_iff_eq]
  have h : inB (nodA g i).1 0 ((sig.length : Int) - 1) = true ↔ (0 ≤ (nodA g i).1 ∧ (nodA g i).1 < (sig.length : Int)) := by
    unfold inB; simp; omega
  rw [h]
  constructor
  · rintro ⟨⟨⟨a, b⟩, c⟩, d⟩; exact ⟨a, b, c, d⟩
  · rintro ⟨a, b, c, d⟩; exact ⟨⟨⟨a, b⟩, c⟩, d⟩
theorem good_iff (sig : List Ct) (g : Gr) : goodG sig g = true ↔ GoodP sig g := by
  rw [goodG_of]
  simp only [Bool.and_eq_true]
  constructor
  · rintro ⟨⟨⟨⟨⟨h1, h2⟩, h3⟩, h4⟩, h5⟩, h6⟩
    unfold headB at h1
    simp only [Bool.and_eq_true, decide_eq_true_eq] at h1
    obtain ⟨⟨⟨⟨a1, a2⟩, a3⟩, a4⟩, a5⟩ := h1
    refine ⟨a1, inB_true a2, a3, a4, inB_true a5, h2, h3, fun i x hx => ?_, ?_, ?_⟩
    · have hi := (List.getElem?_eq_some_iff.1 hx).1
      have h := (nod_iff sig g i).1 (allR_get h4 hi)
      have e : nodA g i = x := getD_some hx
      rw [e] at h
      exact h
    · rw [mem_getD (d := 0)]
      exact fun i hi => (under_iff _ _ _ _).1 (allR_get h5 hi)
    · rw [mem_getD (d := wi0)]
      exact fun i hi => (link_iff _ _).1 (allR_get h6 hi)
  · intro h
    refine ⟨⟨⟨⟨⟨?_, h.on⟩, h.inn⟩, ?_⟩, ?_⟩, ?_⟩
    · unfold headB inB
      simp only [Bool.and_eq_true, decide_eq_true_eq]
      exact ⟨⟨⟨⟨h.sg, h.r⟩, h.n8⟩, h.s4⟩, h.e⟩
    · exact allR_true fun i hi => (nod_iff sig g i).2 (h.nod i _ (getD_lt hi))
    · exact allR_true fun i hi => (under_iff _ _ _ _).2 (mem_getD.1 h.sit i hi)
    · exact allR_true fun i hi => (link_iff _ _).2 (mem_getD.1 h.inr i hi)

section
variable {sig : List Ct} {a b c : Gr}
/-- The identity of some roots and names. -/
def idG (n : Nat) (names : List ByteArray) : Gr := ⟨n, [], (List.range n).map fun i : Nat => -1 - (i : Int), 0, names, (List.range names.length).map fun i : Nat => (names.getD i default, (i : Int))⟩
theorem gr_ext : ∀ (x y : Gr), x.roots = y.roots → x.nodes = y.nodes → x.sites = y.sites → x.edges = y.edges → x.outer = y.outer → x.inner = y.inner → x = y := by
  rintro ⟨⟩ ⟨⟩ h1 h2 h3 h4 h5 h6
  simp only at h1 h2 h3 h4 h5 h6
  subst h1; subst h2; subst h3; subst h4; subst h5; subst h6
  rfl
end

end Go.Proofs.YtijkdpdmclkmlaaGreatDoor

set_option linter.unusedVariables false
namespace Go.Proofs.YtijkdpdmclkmlaaGreatDoor
open Go.RowKit

/-- Where a name stands in a list, or -1. -/
def atS : List ByteArray → ByteArray → Int
  | [], _ => -1
  | x :: l, s => if x = s then 0 else (if atS l s = -1 then -1 else atS l s + 1)
section
variable {sig : List Ct} {a b : Gr}
end
section
variable {sig : List Ct} {a b : Gr}
end

end Go.Proofs.YtijkdpdmclkmlaaGreatDoor

set_option linter.unusedVariables false
namespace Go.Proofs.YtijkdpdmclkmlaaGreatDoor
open Go.RowKit

def lowN (s : ByteArray) : List ByteArray → Nat
  | [] => 0
  | y :: r => if lessS y s then lowN s r + 1 else 0
def putS (o : List ByteArray) (s : ByteArray) : List ByteArray := if lowN s o = o.length ∨ o.getD (lowN s o) default ≠ s then o.take (lowN s o) ++ [s] ++ o.drop (lowN s o) else o
def sortS (l : List ByteArray) : List ByteArray := l.foldl putS []

theorem low_le (s : ByteArray) : ∀ o : List ByteArray, lowN s o ≤ o.length
  | [] => Nat.le_refl _
  | y :: r => by
    have := low_le s r
    unfold lowN
    split
    · simp; omega
    · simp
theorem low_lt (s : ByteArray) : ∀ (o : List ByteArray) (j : Nat), j < lowN s o → lessS (o.getD j default) s = true
  | [], j, h => by simp [lowN] at h
  | y :: r, j, h => by
    unfold lowN at h
    split at h
    · rename_i hy
      cases j with
      | zero => exact hy
      | succ j => exact low_lt s r j (by omega)
    · omega
theorem low_at (s : ByteArray) : ∀ (o : List ByteArray), lowN s o < o.length → lessS (o.getD (lowN s o) default) s = false
  | [], h => by simp at h
  | y :: r, h => by
    unfold lowN at h ⊢
    split
    · rename_i hy
      rw [if_pos hy] at h
      exact low_at s r (by simpa using h)
    · rename_i hy
      simpa using hy
theorem low_of {s : ByteArray} {o : List ByteArray} {m : Nat} (hm : m ≤ o.length) (h1 : ∀ j, j < m → lessS (o.getD j default) s = true) (h2 : m < o.length → lessS (o.getD m default) s = false) : m = lowN s o := by
  rcases Nat.lt_trichotomy m (lowN s o) with h | h | h
  · have a := low_lt s o m h
    rw [h2 (by have := low_le s o; omega)] at a
    cases a
  · exact h
  · have a := low_at s o (by omega)
    rw [h1 _ h] at a
    cases a
theorem put_len (o : List ByteArray) (s : ByteArray) : (putS o s).length ≤ o.length + 1 := by
  unfold putS
  split
  · have := low_le s o
    simp; omega
  · omega
theorem put_mem {o : List ByteArray} {s x : ByteArray} : x ∈ putS o s ↔ x ∈ o ∨ x = s := by
  unfold putS
  split
  · rw [List.append_assoc, List.mem_append, List.mem_append, List.mem_singleton]
    have h := @List.take_append_drop ByteArray (lowN s o) o
    constructor
    · rintro (h1 | h1 | h1)
      · exact .inl (List.mem_of_mem_take h1)
      · exact .inr h1
      · exact .inl (List.mem_of_mem_drop h1)
    · rintro (h1 | h1)
      · rw [← h, List.mem_append] at h1
        rcases h1 with h1 | h1
        · exact .inl h1
        · exact .inr (.inr h1)
      · exact .inr (.inl h1)
  · rename_i h
    have h1 : ¬ lowN s o = o.length := fun e => h (.inl e)
    have h2 : o.getD (lowN s o) default = s := Classical.byContradiction fun e => h (.inr e)
    constructor
    · exact .inl
    · rintro (h3 | rfl)
      · exact h3
      · have hl : lowN x o < o.length := by have := low_le x o; omega
        rw [← h2]
        exact List.mem_of_getElem? (getD_lt hl)
theorem sortS_next {l : List ByteArray} {k : Nat} (h : k < l.length) : sortS (l.take (k + 1)) = putS (sortS (l.take k)) (l.getD k default) := by
  unfold sortS
  rw [List.take_add_one, getD_lt (d := default) h, List.foldl_append]
  rfl
theorem foldl_len : ∀ (l o : List ByteArray), (l.foldl putS o).length ≤ o.length + l.length
  | [], o => by simp
  | s :: l, o => by
    have h1 := foldl_len l (putS o s)
    have h2 := put_len o s
    simp only [List.foldl_cons, List.length_cons]
    omega
theorem sortS_len (l : List ByteArray) : (sortS l).length ≤ l.length := by
  have := foldl_len l []
  unfold sortS
  simpa using this
theorem foldl_mem {x : ByteArray} : ∀ {l o : List ByteArray}, x ∈ l.foldl putS o ↔ x ∈ o ∨ x ∈ l
  | [], o => by simp
  | s :: l, o => by
    rw [List.foldl_cons, foldl_mem (l := l), put_mem, List.mem_cons]
    constructor
    · rintro ((h | h) | h)
      · exact .inl h
      · exact .inr (.inl h)
      · exact .inr (.inr h)
    · rintro (h | h | h)
      · exact .inl (.inl h)
      · exact .inl (.inr h)
      · exact .inr h
theorem sortS_mem {x : ByteArray} {l : List ByteArray} : x ∈ sortS l ↔ x ∈ l := by
  unfold sortS
  rw [foldl_mem]
  simp

end Go.Proofs.YtijkdpdmclkmlaaGreatDoor

set_option linter.unusedVariables false
namespace Go.Proofs.YtijkdpdmclkmlaaGreatDoor
open Go.RowKit

/-- One operation more has come up. -/
def upd (L : Nat → Bool) (i : Nat) : Nat → Bool := fun j => if j = i then true else L j
theorem upd_same (L : Nat → Bool) (i : Nat) : upd L i i = true := by simp [upd]
theorem upd_other {L : Nat → Bool} {i j : Nat} (h : j ≠ i) : upd L i j = L j := by simp [upd, h]

theorem count_set {l : List Bool} {i : Nat} (h : l[i]? = some false) : (l.set i true).count false + 1 = l.count false := by
  induction l generalizing i with
  | nil => simp at h
  | cons a l ih =>
    cases i with
    | zero =>
      simp at h
      subst h
      simp [List.count_cons]
    | succ i =>
      have := ih (by simpa using h)
      simp only [List.set_cons_succ, List.count_cons]
      omega

/-- A slot's value: the new one if its operation has come up. -/
def bsel {α : Type} (b : Bool) (x y : α) : α := if b then x else y
theorem bsel_t {α : Type} (x y : α) : bsel true x y = x := rfl

section
variable {P : Program} {md : Region.Mode} {ops : Array Oper} {Q : Exit → Act → World → Prop}

theorem wpAny_inv (J : (Nat → Bool) → Act → World → Prop)
    (step : ∀ (L : Nat → Bool) (a : Act) (w : World) (i : Nat) (o : Oper), J L a w → L i = false → ops[i]? = some o → (∀ e ∈ o.after, Region.binds md e = true → L e.on = true) →
      ∀ K' : Act → World → Prop, (∀ a' w', J (upd L i) a' w' → K' a' w') → if Region.wanted o (yielded ops a.tmps) = true then Oper.wp P o a w K' Q else K' (a.put o.dst undef) w)
    (fin : ∀ (L : Nat → Bool) (a : Act) (w : World), J L a w → (∀ i o, ops[i]? = some o → L i = false → ∃ e ∈ o.after, Region.binds md e = true ∧ L e.on = false) → Q .normal a w) :
    ∀ (fuel : Nat) (listed : Array Bool) (a : Act) (w : World), listed.size = ops.size → listed.toList.count false ≤ fuel → J (fun i => listed.getD i false) a w → wpAny P md ops Q fuel listed a w := by
  have hfin : ∀ (listed : Array Bool) (a : Act) (w : World), listed.size = ops.size → J (fun i => listed.getD i false) a w → Region.ready md ops listed = [] → Q .normal a w := fun listed a w hs hJ hr => by
    refine fin _ a w hJ fun i o ho hi => ?_
    have hil : i < listed.size := by rw [hs]; exact (Array.getElem?_eq_some_iff.1 ho).1
    refine Classical.byContradiction fun hn => ?_
    have hm : i ∈ Region.ready md ops listed := mem_ready.2 ⟨by simpa [hil] using hi, o, ho, fun e he hb => by
      cases hx : listed.getD e.on false
      · exact absurd ⟨e, he, hb, hx⟩ hn
      · rfl⟩
    rw [hr] at hm
    cases hm
  intro fuel
  induction fuel with
  | zero =>
    intro listed a w hs hc hJ
    have hr : Region.ready md ops listed = [] := by
      rw [List.eq_nil_iff_forall_not_mem]
      intro i hi
      obtain ⟨h1, o, ho, _⟩ := mem_ready.1 hi
      have hil : i < listed.size := by rw [hs]; exact (Array.getElem?_eq_some_iff.1 ho).1
      have h2 : listed[i] = false := by simpa [hil] using h1
      have : false ∈ listed.toList := by rw [← h2]; simp
      have := List.count_pos_iff.2 this
      omega
    exact ⟨hr, hfin listed a w hs hJ hr⟩
  | succ fuel ih =>
    intro listed a w hs hc hJ
    refine ⟨hfin listed a w hs hJ, fun i hi => ?_⟩
    obtain ⟨h1, o, ho, hd⟩ := mem_ready.1 hi
    have hil : i < listed.size := by rw [hs]; exact (Array.getElem?_eq_some_iff.1 ho).1
    have h2 : listed[i] = false := by simpa [hil] using h1
    refine wpOp_step ho fun K' hK => step _ a w i o hJ (by simpa [hil] using h2) ho hd K' fun a' w' hJ' => hK a' w' (ih _ a' w' (by simpa using hs) ?_ ?_)
    · rw [Array.toList_setIfInBounds]
      have := count_set (l := listed.toList) (i := i) (by rw [Array.getElem?_toList, Array.getElem?_eq_getElem hil, h2])
      omega
    · have e : (fun j => (listed.setIfInBounds i true).getD j false) = upd (fun j => listed.getD j false) i := by
        funext j
        unfold upd
        by_cases hj : j = i
        · subst hj
          simp [hil]
        · rw [if_neg hj]
          simp [Array.getD_eq_getD_getElem?, Array.getElem?_setIfInBounds, Ne.symm hj]
      rw [e]
      exact hJ'

/-- The region as a whole. -/
theorem wp_region_inv {id : Nat} {a : Act} {w : World} (hm : P.follows .mixedOrders = true) (J : (Nat → Bool) → Act → World → Prop) (h0 : J (fun _ => false) a w.drew)
    (step : ∀ (L : Nat → Bool) (a : Act) (w : World) (i : Nat) (o : Oper), J L a w → L i = false → ops[i]? = some o → (∀ e ∈ o.after, Region.binds .any e = true → L e.on = true) →
      ∀ K' : Act → World → Prop, (∀ a' w', J (upd L i) a' w' → K' a' w') → if Region.wanted o (yielded ops a.tmps) = true then Oper.wp P o a w K' Q else K' (a.put o.dst undef) w)
    (fin : ∀ (L : Nat → Bool) (a : Act) (w : World), J L a w → (∀ i o, ops[i]? = some o → L i = false → ∃ e ∈ o.after, Region.binds .any e = true ∧ L e.on = false) → Q .normal a w) :
    (Code.region id ops true).wp P Q a w := by
  refine wp_region_any hm (wpAny_inv J step fin ops.size _ a _ (by simp) ?_ ?_)
  · have h : (Array.replicate ops.size false).toList.count false ≤ (Array.replicate ops.size false).toList.length := List.count_le_length
    rw [Array.length_toList, Array.size_replicate] at h
    exact h
  · have e : (fun i => (Array.replicate ops.size false).getD i false) = fun _ => false := by
      funext i
      simp [Array.getD_eq_getD_getElem?, Array.getElem?_replicate]
      split <;> rfl
    rw [e]
    exact h0

end

end Go.Proofs.YtijkdpdmclkmlaaGreatDoor
