/- Labelled systems: the reference's saturated system, walked. -/
import Derived.Test.YtdgnhfhaaghoaaaGreatDoorProg
import Derived.Test.YtdgnhfhaaghoaaaGreatDoorJ3
import Derived.Test.YtdgnhfhaaghoaaaGreatDoorJ43
import Derived.Test.YtdgnhfhaaghoaaaGreatDoorJ6
import Derived.Test.YtdgnhfhaaghoaaaGreatDoorJ11
import Derived.Test.YtdgnhfhaaghoaaaGreatDoorJ26
import Derived.Test.YtdgnhfhaaghoaaaGreatDoorJ31
set_option linter.unusedSimpArgs false
set_option linter.unusedVariables false
namespace Go.Proofs.YtdgnhfhaaghoaaaGreatDoor
open Go.RowKit

theorem el_tabs : El Tryz.prog 146 117 1 24 := El.mk' Tryz.underlying146 (by kernel_rfl : _ = some (some (.slice none 0 0), 1, 24)) rfl (by decide)

/-- A table of truth values, its blocks in P. -/
def TabIn (P : Nat → Prop) (w : World) (n : Nat) (f : Nat → Nat → Bool) (v : Value) : Prop :=
 ∃ g c R C, v = .slice (some ⟨g, 0, none⟩) n c ∧ TabB w 0 g R C n f ∧ P g ∧ ∀ i, i < n → P (R i)
/-- The first m tables. -/
def TabsIn (w : World) (B s3 : Nat) (u : Value) (n m : Nat) (F : Nat → Nat → Nat → Bool) : Prop :=
 ∃ vs : List Value, w.ownsRow B 117 1 u m vs ∧ ∀ a, a < m → ∃ v, vs[a]? = some v ∧ TabIn (fun q => (q < s3 ∨ B ≤ q) ∧ u.ownBlock ≠ some q) w n (F a) v

theorem TabB.kept {w w' : World} {B g n : Nat} {R C : Nat → Nat} {f : Nat → Nat → Bool} {S : Nat → Prop} (h : TabB w B g R C n f) (hk : Kept S w w') (hg : ¬ S g) (hR : ∀ i, i < n → ¬ S (R i)) : TabB w' B g R C n f := by
 refine ⟨fun i hi => kept_cell hk (h.outer i hi) hg, fun i j hi hj => ?_, h.lowg, h.low, h.inj⟩
 obtain ⟨h1, h2⟩ := h.inner i j hi hj
 have hl := lt_of_cell h1
 exact ⟨kept_cell hk h1 (hR i hi), (World.frozen?_of_block (a := ⟨R i, j, none⟩) (hk.block _ hl (hR i hi))).trans h2⟩

theorem TabsIn.push {w w1 w2 : World} {B s3 n m : Nat} {u u2 v : Value} {F : Nat → Nat → Nat → Bool} {vs : List Value} {B' : Nat} (h1 : w.ownsRow B 117 1 u m vs) (h2 : ∀ a, a < m → ∃ v, vs[a]? = some v ∧ TabIn (fun q => (q < s3 ∨ B ≤ q) ∧ u.ownBlock ≠ some q) w n (F a) v)
  (hn : 1 ≤ n) (hB : B ≤ w.heap.size) (hb : Below w.heap.size w w1) (hv : ∃ g c R C, v = .slice (some ⟨g, 0, none⟩) n c ∧ TabB w1 w.heap.size g R C n (F m))
  (ho : w2.ownsRow B 117 1 u2 (m + 1) (vs ++ [v])) (hk : Kept (fun q => u.ownBlock = some q) w1 w2) (hm : Moved w1 u u2) : TabsIn w2 B s3 u2 n (m + 1) F := by
 have hvl : vs.length = m := by have := h1.1; omega
 refine ⟨_, ho, fun a ha => ?_⟩
 by_cases hlt : a < m
 ·obtain ⟨v', e, g, c, R, C, rfl, ht, hg, hR⟩ := h2 a hlt
  refine ⟨_, by rw [List.getElem?_append_left (by omega)]; exact e, g, c, R, C, rfl, (ht.below hb (Nat.le_refl _)).kept hk hg.2 (fun i hi => (hR i hi).2), ⟨hg.1, fun e => ?_⟩, fun i hi => ⟨(hR i hi).1, fun e => ?_⟩⟩
  ·have := lt_of_cell (ht.outer 0 hn)
   dsimp only at this
   have hs := hb.size
   rcases hm _ e with h | h
   ·exact hg.2 h
   ·omega
  ·have := lt_of_cell (ht.inner i 0 hi hn).1
   dsimp only at this
   have hs := hb.size
   rcases hm _ e with h | h
   ·exact (hR i hi).2 h
   ·omega
 ·obtain rfl : a = m := by omega
  obtain ⟨g, c, R, C, rfl, ht⟩ := hv
  have hu : ∀ q, w.heap.size ≤ q → q < w1.heap.size → u.ownBlock ≠ some q ∧ u2.ownBlock ≠ some q := fun q h3 h4 => by
   have : u.ownBlock ≠ some q := fun e => by have := (h1.lt q e).2; omega
   refine ⟨this, fun e => ?_⟩
   rcases hm _ e with h | h
   ·exact this h
   ·omega
  have lg := lt_of_cell (ht.outer 0 hn)
  dsimp only at lg
  have ug := hu g ht.lowg lg
  refine ⟨.slice (some ⟨g, 0, none⟩) n c, by rw [List.getElem?_append_right (by omega)]; simp [hvl], g, c, R, C, rfl, (ht.mono (Nat.zero_le _)).kept hk ug.1 (fun i hi => ?_), ⟨.inr (Nat.le_trans hB ht.lowg), ug.2⟩, fun i hi => ?_⟩
  ·have lR := lt_of_cell (ht.inner i 0 hi hn).1
   exact (hu _ (ht.low i hi).1 lR).1
  ·have lR := lt_of_cell (ht.inner i 0 hi hn).1
   exact ⟨.inr (Nat.le_trans hB (ht.low i hi).1), (hu _ (ht.low i hi).1 lR).2⟩

/-! What the loops have made so far, plainly. -/

theorem fold_putU_len : ∀ (b o : List Int), (b.foldl putI o).length ≤ o.length + b.length
 | [], o => by simp
 | x :: b, o => by
  have := fold_putU_len b (putI o x)
  have h := putI_len o x
  rw [List.foldl_cons, List.length_cons]
  split at h <;> omega
def specTo (n : Nat) (sh : List (List Int)) (ss : List I3) (i j : Nat) : List Int := unionsI sh (((List.range j).filter fun k => silF n ss i k).map fun (k : Nat) => (k : Int)) []
theorem specTo_zero (n : Nat) (sh : List (List Int)) (ss : List I3) (i : Nat) : specTo n sh ss i 0 = [] := rfl
theorem specTo_all (n : Nat) (sh : List (List Int)) (ss : List I3) (i : Nat) : specTo n sh ss i n = specShow n sh ss i := rfl
theorem specTo_no {n : Nat} {sh : List (List Int)} {ss : List I3} {i j : Nat} (h : silF n ss i j = false) : specTo n sh ss i (j + 1) = specTo n sh ss i j := by
 unfold specTo
 rw [List.range_succ, List.filter_append, List.filter_cons, h]
 simp
theorem specTo_yes {n : Nat} {sh : List (List Int)} {ss : List I3} {i j : Nat} (hj : j < sh.length) (h : silF n ss i j = true) : specTo n sh ss i (j + 1) = sh[j].foldl putI (specTo n sh ss i j) := by
 unfold specTo unionsI
 rw [List.range_succ, List.filter_append, List.filter_cons, h, List.map_append, List.foldl_append]
 simp [unionI, hj]
theorem fold_putU_sorted {b o : List Int} (h : o.Pairwise (· < ·)) : (b.foldl putI o).Pairwise (· < ·) := (union_fold b o h).1
theorem specTo_sorted (n : Nat) (sh : List (List Int)) (ss : List I3) (i j : Nat) : (specTo n sh ss i j).Pairwise (· < ·) := (unions_fold sh _ [] List.Pairwise.nil).1
theorem specTo_len {n M : Nat} {sh : List (List Int)} {ss : List I3} {i : Nat} (hM : ∀ xs ∈ sh, xs.length ≤ M) : ∀ j, j ≤ sh.length → (specTo n sh ss i j).length ≤ j * M
 | 0, _ => by simp [specTo_zero]
 | j + 1, hj => by
  have ih := specTo_len (n := n) (ss := ss) (i := i) hM j (by omega)
  cases h : silF n ss i j
  ·rw [specTo_no h, Nat.succ_mul]; omega
  ·rw [specTo_yes (by omega) h, Nat.succ_mul]
   have := fold_putU_len sh[j] (specTo n sh ss i j)
   have := hM _ (List.getElem_mem (show j < sh.length by omega))
   omega

def rowsF (n : Nat) (f : Nat → List Int) : List (List Int) := (List.range n).map f
def shR (n : Nat) (sh : List (List Int)) (ss : List I3) (i : Nat) (c : List Int) (a : Nat) : List Int := if a < i then specShow n sh ss a else if a = i then c else []
theorem rowsF_len (n : Nat) (f : Nat → List Int) : (rowsF n f).length = n := by simp [rowsF]
theorem rowsF_at {n : Nat} {f : Nat → List Int} {i : Nat} (h : i < (rowsF n f).length) : (rowsF n f)[i] = f i := by simp [rowsF]
theorem rowsF_congr {n : Nat} {f g : Nat → List Int} (h : ∀ a, a < n → f a = g a) : rowsF n f = rowsF n g := by
 unfold rowsF
 exact List.map_congr_left fun a ha => h a (List.mem_range.1 ha)
theorem rows_set {n : Nat} {sh : List (List Int)} {ss : List I3} {i : Nat} {c x : List Int} : (rowsF n (shR n sh ss i c)).set i x = rowsF n (shR n sh ss i x) := by
 apply List.ext_getElem (by simp [rowsF])
 intro a h1 h2
 rw [List.getElem_set, rowsF_at h2]
 by_cases e : i = a
 ·rw [if_pos e]
  subst e
  unfold shR
  rw [if_neg (by omega), if_pos rfl]
 ·rw [if_neg e, rowsF_at]
  unfold shR
  by_cases h : a < i
  ·rw [if_pos h, if_pos h]
  ·rw [if_neg h, if_neg h, if_neg (fun h => e h.symm), if_neg (fun h => e h.symm)]
theorem rows_here {n : Nat} {sh : List (List Int)} {ss : List I3} {i : Nat} {c : List Int} : shR n sh ss i c i = c := by
 unfold shR
 rw [if_neg (by omega), if_pos rfl]
theorem rows_zero {n : Nat} {sh : List (List Int)} {ss : List I3} : rowsF n (shR n sh ss 0 []) = List.replicate n [] := by
 apply List.ext_getElem (by simp [rowsF])
 intro a h1 h2
 rw [rowsF_at h1, List.getElem_replicate]
 unfold shR
 rw [if_neg (by omega)]
 split <;> rfl
theorem rows_next {n : Nat} {sh : List (List Int)} {ss : List I3} {i : Nat} : rowsF n (shR n sh ss i (specShow n sh ss i)) = rowsF n (shR n sh ss (i + 1) []) := by
 refine rowsF_congr fun a _ => ?_
 unfold shR
 by_cases h : a < i
 ·rw [if_pos h, if_pos (by omega)]
 ·rw [if_neg h]
  by_cases e : a = i
  ·rw [if_pos e, if_pos (by omega), e]
  ·rw [if_neg e, if_neg (by omega)]
   split <;> rfl
theorem rows_all {n : Nat} {sh : List (List Int)} {ss : List I3} : rowsF n (shR n sh ss n []) = (List.range n).map (specShow n sh ss) := by
 unfold rowsF
 refine List.map_congr_left fun a ha => ?_
 have := List.mem_range.1 ha
 unfold shR
 rw [if_pos this]

def stA (n : Nat) (ss : List I3) (i a : Nat) (j : Nat) : List I3 := ((List.range j).filter fun j => tabF n ss a i j).map fun (j : Nat) => ((i : Int), (a : Int), (j : Int))
def stJ (n : Nat) (ss : List I3) (i a j : Nat) : List I3 :=
 ((List.range i).flatMap fun i => (List.range 8).flatMap fun a => stA n ss i a n) ++ ((List.range a).flatMap fun a => stA n ss i a n) ++ stA n ss i a j
theorem stJ_zero {n : Nat} {ss : List I3} : stJ n ss 0 0 0 = [] := by simp [stJ, stA]
theorem stJ_yes {n : Nat} {ss : List I3} {i a j : Nat} (h : tabF n ss a i j = true) : stJ n ss i a (j + 1) = stJ n ss i a j ++ [((i : Int), (a : Int), (j : Int))] := by
 unfold stJ
 rw [List.append_assoc _ (stA n ss i a j)]
 congr 1
 unfold stA
 rw [List.range_succ, List.filter_append, List.filter_cons, h, List.map_append]
 rfl
theorem stJ_no {n : Nat} {ss : List I3} {i a j : Nat} (h : tabF n ss a i j = false) : stJ n ss i a (j + 1) = stJ n ss i a j := by
 unfold stJ
 congr 1
 unfold stA
 rw [List.range_succ, List.filter_append, List.filter_cons, h]
 simp
theorem stJ_nexta {n : Nat} {ss : List I3} {i a : Nat} : stJ n ss i a n = stJ n ss i (a + 1) 0 := by
 unfold stJ
 rw [List.range_succ (n := a), List.flatMap_append]
 simp [stA]
theorem stJ_nexti {n : Nat} {ss : List I3} {i : Nat} : stJ n ss i 8 0 = stJ n ss (i + 1) 0 0 := by
 unfold stJ
 rw [List.range_succ (n := i), List.flatMap_append]
 simp [stA]
theorem stJ_all {n : Nat} {ss : List I3} : stJ n ss n 0 0 = specSat n ss := by
 unfold stJ specSat stA
 simp
theorem flat_le {α β : Type} {f : α → List β} {M : Nat} : ∀ {l : List α}, (∀ a ∈ l, (f a).length ≤ M) → (l.flatMap f).length ≤ l.length * M
 | [], _ => by simp
 | a :: l, h => by
  have := flat_le (l := l) fun b hb => h b (List.mem_cons_of_mem _ hb)
  have := h a (by simp)
  rw [List.flatMap_cons, List.length_append, List.length_cons, Nat.succ_mul]
  omega
theorem stA_len {n : Nat} {ss : List I3} {i a j : Nat} : (stA n ss i a j).length ≤ j := by
 unfold stA
 rw [List.length_map]
 exact Nat.le_trans (List.length_filter_le _ _) (by simp)
theorem stJ_len {n : Nat} {ss : List I3} {i a j : Nat} (hn : n ≤ 40) (hi : i ≤ 40) (ha : a ≤ 8) (hj : j ≤ 40) : (stJ n ss i a j).length ≤ 20000 := by
 unfold stJ
 rw [List.length_append, List.length_append]
 have h1 : ∀ i, ((List.range 8).flatMap fun a => stA n ss i a n).length ≤ 8 * 40 := fun i => by
  have := flat_le (l := List.range 8) (f := fun a => stA n ss i a n) (M := 40) fun a _ => Nat.le_trans stA_len hn
  simpa using this
 have h2 := flat_le (l := List.range i) (f := fun i => (List.range 8).flatMap fun a => stA n ss i a n) (M := 8 * 40) fun i _ => h1 i
 have h3 := flat_le (l := List.range a) (f := fun a => stA n ss i a n) (M := 40) fun a _ => Nat.le_trans stA_len hn
 have h4 := stA_len (n := n) (ss := ss) (i := i) (a := a) (j := j)
 rw [List.length_range] at h2 h3
 have : i * (8 * 40) ≤ 40 * (8 * 40) := Nat.mul_le_mul_right _ hi
 have : a * 40 ≤ 8 * 40 := Nat.mul_le_mul_right _ ha
 omega

/-! What the result's memory holds while it is made: rows and steps in blocks of their own. -/

def S2 (s3 s4 z q : Nat) : Prop := (s3 ≤ q ∧ q < s4) ∨ z ≤ q
structure P2 (W2 : World) (s3 s4 bo gs cs n : Nat) (rows : List (List Int)) (steps : List I3) (w : World) : Prop where
 keep : Kept (S2 s3 s4 W2.heap.size) W2 w
 len : rows.length = n
 box : ∃ tu, w.heap[bo]? = some (.cells #[.slice (some ⟨gs, 0, none⟩) n cs, tu] 27) ∧ w.ownsRow s3 103 3 tu steps.length (steps.flatMap tri) ∧ ∀ q, tu.ownBlock = some q → S2 s3 s4 W2.heap.size q
 tab : TRN w s3 (.slice (some ⟨gs, 0, none⟩) n cs) rows
 hg : s3 ≤ gs ∧ gs < s4
 hb : s3 ≤ bo ∧ bo < s4
 h4 : s3 ≤ s4 ∧ s4 ≤ W2.heap.size

theorem owns_ne {w : World} {B : Nat} {e : TypeId} {s : Nat} {v : Value} {n : Nat} {xs : List Value} {cs : Array Value} {T : TypeId} {b : Nat} (h : w.ownsRow B e s v n xs) (hb : w.heap[b]? = some (.cells cs T)) (he : e ≠ T) : v.ownBlock ≠ some b := by
 intro hv
 rcases h.2 with ⟨rfl, _⟩ | ⟨g, _, _, rfl, _, hg, _⟩
 ·simp [Value.ownBlock] at hv
 ·simp only [Value.ownBlock, Option.some.injEq] at hv
  subst hv
  rw [hb] at hg
  injection hg with hg
  injection hg with _ hg
  exact he hg.symm

theorem TRN.at_g {w : World} {B : Nat} {g n c : Nat} {l : List (List Int)} (h : TRN w B (.slice (some ⟨g, 0, none⟩) n c) l) : ∃ cur, w.heap[g]? = some (.cells cur 30) := by
 obtain ⟨vs, h1, _⟩ := h
 rcases h1.2 with ⟨e, _⟩ | ⟨g', cap, cur, e, _, hg, _⟩
 ·cases e
 ·cases e
  exact ⟨cur, hg⟩
theorem TRN.kept_ne {w w' : World} {B : Nat} {u : Value} {l : List (List Int)} {S : Nat → Prop} (h : TRN w B u l) (hk : Kept S w w') (h1 : ∀ (v : Value) n xs, w.ownsRow B 30 1 v n xs → ∀ g, v.ownBlock = some g → ¬ S g) (h2 : ∀ (v : Value) n xs, w.ownsRow B 3 1 v n xs → ∀ g, v.ownBlock = some g → ¬ S g) : TRN w' B u l :=
 h.kept hk fun vs ho => ⟨h1 _ _ _ ho, h2⟩

section
variable {W2 w w1 : World} {s3 s4 bo gs cs n : Nat} {rows : List (List Int)} {steps : List I3}
theorem P2.below (h : P2 W2 s3 s4 bo gs cs n rows steps w) (hb : Below w.heap.size w w1) : P2 W2 s3 s4 bo gs cs n rows steps w1 := by
 obtain ⟨tu, b1, b2, b3⟩ := h.box
 exact { h with keep := h.keep.trans (Kept.of_below hb _), box := ⟨tu, (hb.block _ (Array.getElem?_eq_some_iff.1 b1).1).trans b1, owns_below b2 hb (Nat.le_refl _), b3⟩, tab := h.tab.below hb (Nat.le_refl _) }
theorem P2.put {i : Nat} {r : Value} {x : List Int} (h : P2 W2 s3 s4 bo gs cs n rows steps w) (hi : i < n) (hb : Below w.heap.size w w1) (hr : w1.ownsRow w.heap.size 3 1 r x.length (ints x)) (hn : ∃ b, r.ownBlock = some b) :
  P2 W2 s3 s4 bo gs cs n (rows.set i x) steps (w1.setCell ⟨gs, i, none⟩ r) := by
 have h' := h.below hb
 obtain ⟨cur, hgt⟩ := h'.tab.at_g
 obtain ⟨tu, b1, b2, b3⟩ := h'.box
 have hk : Kept (fun q => q = gs) w1 (w1.setCell ⟨gs, i, none⟩ r) := (Kept.refl _ _).setCell (S := fun q => q = gs) (p := ⟨gs, i, none⟩) rfl r
 have hs := h.keep.size
 have h4 := h.h4
 refine { h with keep := h'.keep.trans (hk.mono (fun q hq => ?_)), len := by rw [List.length_set]; exact h.len, box := ⟨tu, ?_, owns_kept b2 hk (fun g hg e => ?_), b3⟩, tab := h.tab.put h.len hi (by omega) hr hn hb }
 ·subst hq; exact .inl h.hg
 ·rw [hk.block bo (Array.getElem?_eq_some_iff.1 b1).1 (fun e => ?_)]
  ·exact b1
  ·rw [e, hgt] at b1
   injection b1 with b1
   injection b1 with _ b1
   exact absurd b1 (by decide)
 ·subst e
  exact owns_ne b2 hgt (by decide) hg
theorem P2.same {i : Nat} {r : Value} (h : P2 W2 s3 s4 bo gs cs n rows steps w) (hb : Below w.heap.size w w1) (hr : w1.cell? ⟨gs, i, none⟩ = some r) :
  P2 W2 s3 s4 bo gs cs n rows steps (w1.setCell ⟨gs, i, none⟩ r) := by
 have h' := h.below hb
 obtain ⟨cur, hgt⟩ := h'.tab.at_g
 rw [cell_of_row _ _ _ _ _ _ hgt] at hr
 have e : (w1.setCell ⟨gs, i, none⟩ r).heap = w1.heap := by
  unfold World.setCell
  apply Array.ext_getElem?
  intro k
  simp only [Array.getElem?_modify]
  by_cases hk : gs = k
  ·subst hk
   rw [if_pos rfl, hgt]
   simp only [Option.map_some, Option.some.injEq]
   obtain ⟨hl, hr⟩ := Array.getElem?_eq_some_iff.1 hr
   have : cur.setIfInBounds i r = cur := by
    apply Array.ext_getElem?
    intro j
    rw [Array.getElem?_setIfInBounds]
    by_cases hij : i = j
    ·subst hij
     rw [if_pos rfl, if_pos hl, ← hr]
     simp [hl]
    ·rw [if_neg hij]
   simp [this]
  ·rw [if_neg hk]
 have hbl : Below w1.heap.size w1 (w1.setCell ⟨gs, i, none⟩ r) := ⟨rfl, rfl, rfl, by rw [e]; exact Nat.le_refl _, fun k _ => by rw [e]⟩
 exact h'.below hbl
theorem P2.push {x : I3} {tu tu' : Value} (h : P2 W2 s3 s4 bo gs cs n rows steps w) (hbx : w.heap[bo]? = some (.cells #[.slice (some ⟨gs, 0, none⟩) n cs, tu] 27)) (ht : w.ownsRow s3 103 3 tu steps.length (steps.flatMap tri)) (hS : ∀ q, tu.ownBlock = some q → S2 s3 s4 W2.heap.size q)
  (ho : w1.ownsRow s3 103 3 tu' (steps.length + 1) (steps.flatMap tri ++ tri x)) (hk : Kept (fun q => tu.ownBlock = some q) w w1) (hm : Moved w tu tu') :
  P2 W2 s3 s4 bo gs cs n rows (steps ++ [x]) (w1.setCell ⟨bo, 1, none⟩ tu') := by
 obtain ⟨cur, hgt⟩ := h.tab.at_g
 have hne : tu.ownBlock ≠ some bo := owns_ne ht hbx (by decide)
 have hb1 := (hk.block bo (Array.getElem?_eq_some_iff.1 hbx).1 hne).trans hbx
 have hk2 : Kept (fun q => q = bo) w1 (w1.setCell ⟨bo, 1, none⟩ tu') := (Kept.refl _ _).setCell (S := fun q => q = bo) (p := ⟨bo, 1, none⟩) rfl tu'
 have htab : TRN w1 s3 (.slice (some ⟨gs, 0, none⟩) n cs) rows := h.tab.kept_ne hk (fun v m xs ha g hg e => owns_apart' ha ht (by decide) g hg e) (fun v m xs ha g hg e => owns_apart' ha ht (by decide) g hg e)
 have h4 := h.h4
 have hs := h.keep.size
 have hnb := owns_ne ho hb1 (by decide)
 refine { h with keep := (h.keep.trans (hk.mono (fun q hq => hS q hq))).trans (hk2.mono (fun q hq => by subst hq; exact .inl h.hb)), box := ⟨tu', heap_setCell_same w1 bo 1 _ _ tu' hb1, ?_, fun q hq => ?_⟩, tab := htab.kept_ne hk2 (fun v m xs ha g hg e => by subst e; exact owns_ne ha hb1 (by decide) hg) (fun v m xs ha g hg e => by subst e; exact owns_ne ha hb1 (by decide) hg) }
 ·have := owns_kept ho hk2 (fun g hg e => by subst e; exact hnb hg)
  rw [List.length_append, List.flatMap_append]
  simpa using this
 ·rcases hm q hq with h | h
  ·exact hS q h
  ·exact .inr (by omega)
end

/-- What l1Put hands back: the list itself, or one in new memory. -/
def PutR (wr w' : World) (row : List Int) (x : Int) (rb rd : Nat) (r : Value) : Prop :=
 (r = .slice (some ⟨rb, 0, none⟩) row.length rd ∧ putI row x = row) ∨ (w'.ownsRow wr.heap.size 3 1 r (putI row x).length (ints (putI row x)) ∧ ∃ b, r.ownBlock = some b)
theorem put_res {wr W : World} {rb rd : Nat} {row : List Int} {x : Int} (hn : row.length ≤ 1000000) (hd : row.length ≤ rd) (hp : row.Pairwise (· < ·)) (hC : Cells W (some ⟨rb, 0, none⟩) (ints row)) (hW : Below wr.heap.size wr W) :
  Calls Tryz.prog 164 #[.slice (some ⟨rb, 0, none⟩) row.length rd, .int .i64 x] W (fun e w' => ∃ a m c, e = .returned (.slice a m c) ∧ PutR wr w' row x rb rd (.slice a m c) ∧ Below wr.heap.size wr w') := by
 refine (l1Put_any rb rd row x W hn hd hp hC).mono fun e w' ⟨r, h1, h2, h3⟩ => ?_
 rcases h2 with ⟨rfl, h2⟩ | h2
 ·exact ⟨_, _, _, h1, .inl ⟨rfl, h2⟩, hW.trans (h3.mono hW.size)⟩
 ·have h2' := h2
  obtain ⟨A, c, rfl, _⟩ := owns_form h2
  refine ⟨_, _, _, h1, .inr ⟨owns_mono h2' hW.size, ?_⟩, hW.trans (h3.mono hW.size)⟩
  have hl : 0 < (putI row x).length := List.length_pos_of_mem ((putI_mem row x x).2 (.inr rfl))
  rcases h2'.2 with ⟨_, e⟩ | ⟨g, _, _, e, _⟩
  ·omega
  ·exact ⟨g, by rw [e]; rfl⟩
theorem P2.own {W2 w : World} {s3 s4 bo gs cs n : Nat} {rows : List (List Int)} {steps : List I3} (h : P2 W2 s3 s4 bo gs cs n rows steps w) : ∃ A c, w.cell? ⟨bo, 0, none⟩ = some (.slice (some ⟨gs, 0, none⟩) rows.length cs) ∧ w.cell? ⟨bo, 1, none⟩ = some (.slice A steps.length c) ∧ OwnLab w (fun b => s3 ≤ b ∧ b < w.heap.size) (.agg #[.slice (some ⟨gs, 0, none⟩) rows.length cs, .slice A steps.length c]) ⟨rows, steps⟩ := by
 obtain ⟨tu, b1, b2, _⟩ := h.box
 obtain ⟨A, c, rfl, b2⟩ := owns_form b2
 obtain ⟨c0, c1, _, _⟩ := box_two b1
 have ht := h.tab
 have hl := h.len
 subst hl
 exact ⟨A, c, c0, c1, ht.rows.lab b2⟩

set_option maxRecDepth 100000 in
set_option maxHeartbeats 16000000 in
theorem l11Saturate_any (v : Value) (l : Lab) (M : Nat) (w : World) (hM : M ≤ 10000) (hsh : ∀ xs ∈ l.shows, xs.length ≤ M) (hn1 : 1 ≤ l.shows.length) (hn40 : l.shows.length ≤ 40) (hst : StepsN l.shows.length l.steps) (hv : RLab w v l) :
  Calls Tryz.prog 101 #[v] w fun e w' => ∃ r, e = .returned r ∧ OwnLab w' (fun b => w.heap.size ≤ b ∧ b < w'.heap.size) r ⟨(List.range l.shows.length).map (specShow l.shows.length l.shows l.steps), specSat l.shows.length l.steps⟩ ∧ Below w.heap.size w w' := by
 have HST := Lib.hid hst
 have hv0 := hv
 obtain ⟨sv, tv, rfl, hsv, htv⟩ := hv
 have HSV := Lib.hid (show ∀ W, Below w.heap.size w W → RSS W sv l.shows from fun W hb => hsv.below hb)
 have HV := Lib.hid (show ∀ W, Below w.heap.size w W → RLab W (.agg #[sv, tv]) l from fun W hb => hv0.below hb)
 obtain ⟨A, c0, vs, rfl, hmA, _, _, _⟩ := hsv
 obtain ⟨D, d, rfl, hmD, _⟩ := htv
 obtain ⟨W0, hW0⟩ : ∃ W0, W0 = (w.alloc (.cells #[.slice A l.shows.length c0, .slice D l.steps.length d] 27)).alloc (.cells #[.slice none 0 0, .slice none 0 0] 27) := ⟨_, rfl⟩
 have hz0 : Below w.heap.size w W0 := by rw [hW0]; exact ((Below.refl _ _).alloc (Nat.le_refl _) _).alloc (by simp) _
 have hs0 : W0.heap.size = w.heap.size + 1 + 1 := by rw [hW0]; simp
 have bx0 : W0.heap[w.heap.size]? = some (.cells #[.slice A l.shows.length c0, .slice D l.steps.length d] 27) := by rw [hW0]; exact (heap_alloc_old _ _ (by simp)).trans (heap_alloc_new _ _)
 have br0 : W0.heap[w.heap.size + 1]? = some (.cells #[.slice none 0 0, .slice none 0 0] 27) := by rw [hW0]; exact heap_alloc2_new _ _ _
 have HX := Lib.hid (show ∀ W, Below W0.heap.size W0 W → W.cell? ⟨w.heap.size, 0, none⟩ = some (.slice A l.shows.length c0) ∧ W.cell? ⟨w.heap.size, 1, none⟩ = some (.slice D l.steps.length d) from fun W hW => by
  have := (hW.block _ (by omega)).trans bx0
  exact ⟨cell_of_row _ _ _ _ _ _ this, cell_of_row _ _ _ _ _ _ this⟩)
 have HR := Lib.hid (show ∀ W, Below W0.heap.size W0 W → W.heap[w.heap.size + 1]? = some (.cells #[.slice none 0 0, .slice none 0 0] 27) from fun W hW => (hW.block _ (by omega)).trans br0)
 have HSV := Lib.hid (show ∀ W, Below W0.heap.size W0 W → RSS W (.slice A l.shows.length c0) l.shows from fun W hb => HSV.out W (hz0.trans (hb.mono hz0.size)))
 have HV := Lib.hid (show ∀ W, Below W0.heap.size W0 W → RLab W (.agg #[.slice A l.shows.length c0, .slice D l.steps.length d]) l from fun W hb => HV.out W (hz0.trans (hb.mono hz0.size)))
 have HSIL := Lib.hid (l11Silent_any _ l W0 hn1 hn40 hst (HV.out W0 (Below.refl _ _)))
 have HROW := Lib.hid (fun W => l7Rows_any l.shows.length W (by omega))
 have HWK := Lib.hid (fun a gs cs Rs Cs W hv hS => l11Weak_any (.agg #[.slice A l.shows.length c0, .slice D l.steps.length d]) l a gs cs 0 Rs Cs (silF l.shows.length l.steps) W hn1 hn40 hst hv hS)
 have HZ0 := Lib.hid hz0
 obtain ⟨x0, x1⟩ := HX.out W0 (Below.refl _ _)
 have HW0 := Lib.hid hW0
 have hsz0 : w.heap.size ≤ W0.heap.size := by omega
 have hsz02 : w.heap.size + 1 < W0.heap.size := by omega
 clear hst bx0 br0 hz0 hs0 hW0 hv0
 unfold maxLen at hmA hmD
 go_enter Tryz.func101, Tryz.ntmps101
 go_wp2_with fail
 rw [← HW0.out]
 go_wp2_with fail
 refine HSIL.out.mono ?_
 rintro e w1 ⟨gS, cS, RS, CS, rfl, htS, hb1⟩
 obtain ⟨x0, x1⟩ := HX.out w1 hb1
 go_wp2_with fail
 refine (HROW.out w1).mono ?_
 rintro e w2 ⟨su, rfl, htn, hb2⟩
 have htn' := htn
 obtain ⟨vs2, ho2, _, _, _⟩ := htn'
 rw [List.length_replicate] at ho2
 obtain ⟨AU, cU, rfl, ho2⟩ := owns_form ho2
 go_wp2_with fail
 obtain ⟨W3, hW3⟩ : ∃ W3, W3 = (w2.alloc (.cells #[] 103)).alloc (.cells #[.slice AU l.shows.length cU, .slice (some ⟨w2.heap.size, 0, none⟩) 0 0] 27) := ⟨_, rfl⟩
 rw [← hW3]
 have hs3 : W3.heap.size = w2.heap.size + 1 + 1 := by rw [hW3]; simp
 have hb3 : Below w2.heap.size w2 W3 := by rw [hW3]; exact ((Below.refl _ _).alloc (Nat.le_refl _) _).alloc (by simp) _
 have hb13 : Below w1.heap.size w1 W3 := hb2.trans (hb3.mono hb2.size)
 have hbo : W3.heap[w2.heap.size + 1]? = some (.cells #[.slice AU l.shows.length cU, .slice (some ⟨w2.heap.size, 0, none⟩) 0 0] 27) := by rw [hW3]; exact heap_alloc2_new _ _ _
 have hst3 : W3.ownsRow w1.heap.size 103 3 (.slice (some ⟨w2.heap.size, 0, none⟩) 0 0) 0 [] := by
  rw [hW3]
  exact (owns_mono (World.ownsRow_made (e := 103) (size := 3) w2 #[] 0 (Nat.le_refl _) (Nat.zero_le _) rfl) hb2.size).alloc _
 have htn3 := htn.below hb3 (Nat.le_refl _)
 have hs12 := hb2.size
 have hs01 := hb1.size
 obtain ⟨gs, hAU, hgs1, hgs2⟩ : ∃ gs, AU = some ⟨gs, 0, none⟩ ∧ w1.heap.size ≤ gs ∧ gs < w2.heap.size := by
  rcases ho2.2 with ⟨e, h⟩ | ⟨g, cap, cur, e, h1, h2, _⟩
  ·omega
  ·injection e with e
   exact ⟨g, e, h1, (Array.getElem?_eq_some_iff.1 h2).1⟩
 subst hAU
 have HTS := Lib.hid (show ∀ W, Below w1.heap.size w1 W → TabB W 0 gS RS CS l.shows.length (silF l.shows.length l.steps) from fun W hW => (htS.mono (Nat.zero_le _)).below hW (Nat.le_refl _))
 have hTlt : gS < w1.heap.size ∧ ∀ i, i < l.shows.length → RS i < w1.heap.size := ⟨lt_of_cell (htS.outer 0 (by omega)), fun i hi => lt_of_cell (htS.inner i 0 hi (by omega)).1⟩
 have HTL := Lib.hid hTlt
 have HB13 := Lib.hid hb13
 have HB01 := Lib.hid hb1
 have HBO := Lib.hid hbo
 have HST3 := Lib.hid hst3
 have HTN3 := Lib.hid htn3
 have HTIN := Lib.hid (show TabsIn (W3.alloc (.cells #[.slice (some ⟨gS, 0, none⟩) l.shows.length cS] 117)) W3.heap.size w1.heap.size (.slice (some ⟨W3.heap.size, 0, none⟩) 1 1) l.shows.length 1 (tabF l.shows.length l.steps) from by
  have hm : (W3.alloc (.cells #[.slice (some ⟨gS, 0, none⟩) l.shows.length cS] 117)).ownsRow W3.heap.size 117 1 (.slice (some ⟨W3.heap.size, 0, none⟩) 1 1) 1 [.slice (some ⟨gS, 0, none⟩) l.shows.length cS] := ⟨rfl, .inr ⟨W3.heap.size, 1, _, rfl, Nat.le_refl _, heap_alloc_new _ _, Nat.le_refl _, by unfold maxLen; omega, rfl, rfl⟩⟩
  refine ⟨[.slice (some ⟨gS, 0, none⟩) l.shows.length cS], hm, fun a ha => ?_⟩
  obtain rfl : a = 0 := by omega
  have hba : Below w1.heap.size w1 (W3.alloc (.cells #[.slice (some ⟨gS, 0, none⟩) l.shows.length cS] 117)) := hb13.alloc (by omega) _
  exact ⟨_, rfl, gS, cS, RS, CS, rfl, (HTS.out _ hba).congr (fun i j _ _ => rfl), ⟨.inl hTlt.1, by simp [Value.ownBlock]; have := hTlt.1; omega⟩, fun i hi => ⟨.inl (hTlt.2 i hi), by simp [Value.ownBlock]; have := hTlt.2 i hi; omega⟩⟩)
 rw [← hs3]
 have hs3a : w2.heap.size + 1 < W3.heap.size := by omega
 have hs3b : W3.heap.size ≤ w2.heap.size + 2 := by omega
 clear hs3 hW3 hbo hst3 htn3 hTlt htS hb1 hb2 hb3 hb13 htn ho2 HSIL HW0
 go_loopw [6, 7] (fun u i wr => ∃ m : Nat, 1 ≤ m ∧ m ≤ 8 ∧ i = .int .i64 m ∧ TabsIn wr W3.heap.size w1.heap.size u l.shows.length m (tabF l.shows.length l.steps) ∧ Below W3.heap.size W3 wr)
  (fun _ i _ => 8 - (intOf i).toNat)
 case atStart => exact ⟨1, Nat.le_refl _, by omega, rfl, HTIN.out, (Below.refl _ _).alloc (Nat.le_refl _) _⟩
 case round =>
  clear HTIN x0 x1
  obtain ⟨m, hm1, hm8, rfl, htab, hbel⟩ := hrel
  have T := htab
  obtain ⟨vs, t1, t2⟩ := htab
  obtain ⟨AT, cT, rfl, t1⟩ := owns_form t1
  have hszr := hbel.size
  have hb1r : Below w1.heap.size w1 wr := HB13.out.trans (hbel.mono HB13.out.size)
  have hb0r : Below W0.heap.size W0 wr := HB01.out.trans (hb1r.mono hs01)
  obtain ⟨x0, x1⟩ := HX.out wr hb0r
  by_cases hlt : m < 8
  ·have HW := Lib.hid (HWK.out (m : Int) gS cS RS CS wr (HV.out wr hb0r) (HTS.out wr hb1r))
   have T1 := Lib.hid t1
   have T2 := Lib.hid t2
   have HB := Lib.hid hbel
   clear t1 t2 hbel hb1r hb0r T
   go_wp2_with fail
   refine HW.out.mono ?_
   rintro e w4 ⟨g4, c4, R4, C4, rfl, ht4, hb4⟩
   have HT4 := Lib.hid (show TabB w4 wr.heap.size g4 R4 C4 l.shows.length (tabF l.shows.length l.steps m) from ht4.congr (fun i j _ _ => by unfold tabF; rw [if_neg (by omega)]; rfl))
   have HB4 := Lib.hid hb4
   have hs4 := hb4.size
   have T14 := Lib.hid (owns_below T1.out hb4 (Nat.le_refl _))
   clear ht4 hb4
   go_wp2_with (at_builtin; refine wpList_app el_tabs rfl _ _ rfl W3.heap.size _ _ _ rfl T14.out [.slice (some ⟨g4, 0, none⟩) l.shows.length c4] rfl rfl rfl (one1 rfl) (by omega) (by omega) ?_; intro v5 w5 ho5 hk5 hm5)
   have HP := Lib.hid (TabsIn.push (B' := 0) T1.out T2.out hn1 hszr HB4.out ⟨g4, c4, R4, C4, rfl, HT4.out⟩ ho5 hk5 hm5)
   have HG := Lib.hid (below_kept (HB.out.trans (HB4.out.mono hszr)) hk5 (fun q hq => (T1.out.lt q hq).1) (by omega))
   clear ho5 hk5 hm5
   go_wp2_with fail
   go_roundw
   case rel => first | exact ⟨m + 1, by omega, by omega, by go_num, HP.out, HG.out⟩ | ((repeat apply Exists.intro); exact ⟨⟨m + 1, by omega, by omega, by go_num, HP.out, HG.out⟩, rfl⟩)
   case measure => simp [intOf]; omega
  ·obtain rfl : m = 8 := by omega
   rw [show ((8 : Nat) : Int) = 8 from rfl]
   obtain ⟨gt, hAT, hgt1, hgt2⟩ : ∃ gt, AT = some ⟨gt, 0, none⟩ ∧ W3.heap.size ≤ gt ∧ gt < wr.heap.size := by
    rcases t1.2 with ⟨e, h⟩ | ⟨g, cap, cur, e, h1, h2, _⟩
    ·omega
    ·injection e with e
     exact ⟨g, e, h1, (Array.getElem?_eq_some_iff.1 h2).1⟩
   subst hAT
   have HTB := Lib.hid (show ∀ W, Kept (S2 w1.heap.size W3.heap.size wr.heap.size) wr W → ∀ a, a < 8 → ∃ g c R C, W.cell? ⟨gt, a, none⟩ = some (.slice (some ⟨g, 0, none⟩) l.shows.length c) ∧ TabB W 0 g R C l.shows.length (tabF l.shows.length l.steps a) from fun W hW a ha => by
    obtain ⟨v, e, g, c, R, C, rfl, ht, hg, hR⟩ := t2 a ha
    have hc := t1.cellAt a (by omega)
    rw [e] at hc
    have lg := lt_of_cell (ht.outer 0 hn1)
    dsimp only at lg
    refine ⟨g, c, R, C, kept_cell hW hc (by unfold S2; dsimp only; omega), ht.kept hW (by unfold S2; have := hg.1; omega) (fun i hi => ?_)⟩
    have lR := lt_of_cell (ht.inner i 0 hi hn1).1
    dsimp only at lR
    have := (hR i hi).1
    unfold S2
    omega)
   have HDN := Lib.hid (show ∀ W, Kept (S2 w1.heap.size W3.heap.size wr.heap.size) wr W → Below w1.heap.size w1 W from fun W hW => hb1r.trans (hW.below (fun q hq => by unfold S2 at hq; omega) (by omega)))
   have HP2 := Lib.hid (show P2 wr w1.heap.size W3.heap.size (w2.heap.size + 1) gs cU l.shows.length (rowsF l.shows.length (shR l.shows.length l.shows l.steps 0 [])) (stJ l.shows.length l.steps 0 0 0) wr from {
    keep := Kept.refl _ _
    len := rowsF_len _ _
    box := ⟨_, (hbel.block _ (by omega)).trans HBO.out, by rw [stJ_zero]; exact owns_below HST3.out hbel (Nat.le_refl _), fun q hq => by simp [Value.ownBlock] at hq; subst hq; exact .inl ⟨hs12, by omega⟩⟩
    tab := by rw [rows_zero]; exact HTN3.out.below hbel (Nat.le_refl _)
    hg := ⟨hgs1, by omega⟩
    hb := ⟨by omega, by omega⟩
    h4 := ⟨by omega, hszr⟩ })
   obtain ⟨W2, hW2⟩ : ∃ W2, W2 = wr := ⟨_, rfl⟩
   rw [← hW2] at HTB HDN HP2
   have HTSIL := HTS
   clear t1 t2 hbel hb1r hb0r T HBO HST3 HTN3 HWK HTL HTS hgt1 hgt2
   go_wp2_with fail
   go_loopw [8] (fun i wr => ∃ k : Nat, k ≤ l.shows.length ∧ i = .int .i64 k ∧ P2 W2 w1.heap.size W3.heap.size (w2.heap.size + 1) gs cU l.shows.length (rowsF l.shows.length (shR l.shows.length l.shows l.steps k [])) (stJ l.shows.length l.steps k 0 0) wr)
    (fun i _ => l.shows.length - (intOf i).toNat)
   case atStart => exact ⟨0, Nat.zero_le _, rfl, by rw [← hW2]; exact HP2.out⟩
   case round =>
    clear HP2 x0 x1
    obtain ⟨i, hi, rfl, hp⟩ := hrel
    have HP := Lib.hid hp
    by_cases hin : i < l.shows.length
    ·clear hp
     go_wp2_with fail
     go_loopw [9] (fun q wr => ∃ j : Nat, j ≤ l.shows.length ∧ q = .int .i64 j ∧ P2 W2 w1.heap.size W3.heap.size (w2.heap.size + 1) gs cU l.shows.length (rowsF l.shows.length (shR l.shows.length l.shows l.steps i (specTo l.shows.length l.shows l.steps i j))) (stJ l.shows.length l.steps i 0 0) wr)
      (fun q _ => l.shows.length - (intOf q).toNat)
     case atStart => exact ⟨0, Nat.zero_le _, rfl, HP.out⟩
     case round =>
      clear HP
      obtain ⟨j, hj, rfl, hp⟩ := hrel
      have HP := Lib.hid hp
      by_cases hjn : j < l.shows.length
      ·have hsm := hsh _ (List.getElem_mem hjn)
       have hlj := specTo_len (n := l.shows.length) (ss := l.steps) (i := i) hsh j (by omega)
       have hlj2 : j * M ≤ 40 * 10000 := Nat.mul_le_mul (by omega) hM
       cases hF : silF l.shows.length l.steps i j
       ·have HN := Lib.hid (specTo_no (n := l.shows.length) (sh := l.shows) hF)
        clear hp hlj hlj2
        go_wp2_with fail
        go_loopw [10] (fun q wr => q = .int .i64 0 ∧ P2 W2 w1.heap.size W3.heap.size (w2.heap.size + 1) gs cU l.shows.length (rowsF l.shows.length (shR l.shows.length l.shows l.steps i (specTo l.shows.length l.shows l.steps i j))) (stJ l.shows.length l.steps i 0 0) wr)
         (fun q _ => 0)
        case atStart => exact ⟨rfl, HP.out⟩
        case round =>
         clear HP
         obtain ⟨rfl, hp⟩ := hrel
         have hd := HDN.out wr hp.keep
         have hd0 := HB01.out.trans (hd.mono hs01)
         obtain ⟨x0, x1⟩ := HX.out wr hd0
         obtain ⟨A', c', us, e, _, hul, hcu, hru⟩ := HSV.out wr hd0
         cases e
         obtain ⟨sb, so, rfl, hcc⟩ := hcu.at_ (k := j) (by omega)
         have cj := hcc j _ (List.getElem?_eq_getElem (by omega))
         obtain ⟨Aj, aj, ej, _, hAj⟩ := hru j _ _ (List.getElem?_eq_getElem (by omega)) (List.getElem?_eq_getElem hjn)
         rw [ej] at cj
         obtain ⟨g0, c00, R0, C0, e0, hT0⟩ := HTB.out wr hp.keep 0 (by omega)
         have hS := HTSIL.out wr hd
         have o1 := hS.outer i hin
         obtain ⟨n1, _⟩ := hS.inner i j hin hjn
         rw [hF] at n1
         have b0 : (0 : Int) ≤ (i : Int) := by omega
         have b1 : (i : Int) < (l.shows.length : Int) := by omega
         have b2 : (0 : Int) ≤ (j : Int) := by omega
         have b3 : (j : Int) < (l.shows.length : Int) := by omega
         have HP := Lib.hid hp
         clear hp hd hd0 hcu hru hcc ej hAj hT0 hS e0
         generalize l.shows[j] = xj at *
         by_cases h0 : 0 < xj.length
         ·go_wp2_with fail
          go_roundw
          case rel => first | exact ⟨j + 1, by omega, by go_num, by rw [HN.out]; exact HP.out⟩ | ((repeat apply Exists.intro); exact ⟨⟨j + 1, by omega, by go_num, by rw [HN.out]; exact HP.out⟩, rfl⟩)
          case measure => simp [intOf]; omega
         ·go_wp2_with fail
          go_roundw
          case rel => first | exact ⟨j + 1, by omega, by go_num, by rw [HN.out]; exact HP.out⟩ | ((repeat apply Exists.intro); exact ⟨⟨j + 1, by omega, by go_num, by rw [HN.out]; exact HP.out⟩, rfl⟩)
          case measure => simp [intOf]; omega
       ·have HN := Lib.hid (specTo_yes (n := l.shows.length) hjn hF)
        have hsrt := specTo_sorted l.shows.length l.shows l.steps i j
        have HLEN := Lib.hid (show ∀ k, ((l.shows[j].take k).foldl putI (specTo l.shows.length l.shows l.steps i j)).length ≤ 500000 from fun k => by
         have := fold_putU_len (l.shows[j].take k) (specTo l.shows.length l.shows l.steps i j)
         rw [List.length_take] at this
         omega)
        have HSRT := Lib.hid (show ∀ k, ((l.shows[j].take k).foldl putI (specTo l.shows.length l.shows l.steps i j)).Pairwise (· < ·) from fun k => fold_putU_sorted hsrt)
        clear hp hlj hlj2 hsrt
        go_wp2_with fail
        go_loopw [10] (fun q wr => ∃ k : Nat, k ≤ l.shows[j].length ∧ q = .int .i64 k ∧ P2 W2 w1.heap.size W3.heap.size (w2.heap.size + 1) gs cU l.shows.length (rowsF l.shows.length (shR l.shows.length l.shows l.steps i ((l.shows[j].take k).foldl putI (specTo l.shows.length l.shows l.steps i j)))) (stJ l.shows.length l.steps i 0 0) wr)
         (fun q _ => l.shows[j].length - (intOf q).toNat)
        case atStart => exact ⟨0, Nat.zero_le _, rfl, HP.out⟩
        case round =>
         clear HP
         obtain ⟨k, hk, rfl, hp⟩ := hrel
         have hd := HDN.out wr hp.keep
         have hd0 := HB01.out.trans (hd.mono hs01)
         obtain ⟨x0, x1⟩ := HX.out wr hd0
         obtain ⟨A', c', us, e, _, hul, hcu, hru⟩ := HSV.out wr hd0
         cases e
         obtain ⟨sb, so, rfl, hcc⟩ := hcu.at_ (k := j) (by omega)
         have cj := hcc j _ (List.getElem?_eq_getElem (by omega))
         obtain ⟨Aj, aj, ej, _, hAj⟩ := hru j _ _ (List.getElem?_eq_getElem (by omega)) (List.getElem?_eq_getElem hjn)
         rw [ej] at cj
         have hS := HTSIL.out wr hd
         have o1 := hS.outer i hin
         obtain ⟨n1, _⟩ := hS.inner i j hin hjn
         rw [hF] at n1
         have b0 : (0 : Int) ≤ (i : Int) := by omega
         have b1 : (i : Int) < (l.shows.length : Int) := by omega
         have b2 : (0 : Int) ≤ (j : Int) := by omega
         have b3 : (j : Int) < (l.shows.length : Int) := by omega
         have b4 : (0 : Int) ≤ (k : Int) := by omega
         have HP := Lib.hid hp
         by_cases hkn : k < l.shows[j].length
         ·have b5 : (k : Int) < (l.shows[j].length : Int) := by omega
          obtain ⟨qb, qo, rfl, hqc⟩ := hAj.int hkn
          have cq := hqc k hkn
          have hil : i < (rowsF l.shows.length (shR l.shows.length l.shows l.steps i ((l.shows[j].take k).foldl putI (specTo l.shows.length l.shows l.steps i j)))).length := by rw [rowsF_len]; exact hin
          obtain ⟨gs', cs', rb, rd, eg, hgs0, hgs1', hrb, hrc, hrf, hrd, hrC⟩ := hp.tab.at_ hil
          rw [rowsF_at, rows_here] at hrc hrd hrC
          injection eg with eg1 egl eg3
          injection eg1 with eg1
          injection eg1 with eg1 ego egs
          clear egl ego egs
          subst eg1
          subst eg3
          obtain ⟨tu, bb1, bbx, bby⟩ := hp.box
          obtain ⟨y0, yx, yy, yz⟩ := box_two bb1
          clear bbx bby yx yy yz
          have hnx : (l.shows[j].take (k + 1)).foldl putI (specTo l.shows.length l.shows l.steps i j) = putI ((l.shows[j].take k).foldl putI (specTo l.shows.length l.shows l.steps i j)) (l.shows[j].getD k 0) := by
           rw [List.take_succ_eq_append_getElem hkn, List.foldl_append]
           simp [List.getD, hkn]
          have HNX := Lib.hid hnx
          have hl1 := HLEN.out k
          have hp1 := HSRT.out k
          have HPUT := Lib.hid (show ∀ W, Below wr.heap.size wr W → Calls Tryz.prog 164 #[.slice (some ⟨rb, 0, none⟩) ((l.shows[j].take k).foldl putI (specTo l.shows.length l.shows l.steps i j)).length rd, .int .i64 (l.shows[j].getD k 0)] W (fun e w' => ∃ a m c, e = .returned (.slice a m c) ∧ PutR wr w' ((l.shows[j].take k).foldl putI (specTo l.shows.length l.shows l.steps i j)) (l.shows[j].getD k 0) rb rd (.slice a m c) ∧ Below wr.heap.size wr w') from fun W hW => put_res (by omega) hrd hp1 (hrC.below hW) hW)
          have HFR := Lib.hid (show ∀ W, Below wr.heap.size wr W → W.cell? ⟨w2.heap.size + 1, 0, none⟩ = some (.slice (some ⟨gs, 0, none⟩) l.shows.length cU) ∧ W.cell? ⟨w.heap.size, 0, none⟩ = some (.slice (some ⟨sb, so, none⟩) l.shows.length c0) ∧ W.cell? ⟨sb, so + j, none⟩ = some (.slice (some ⟨qb, qo, none⟩) l.shows[j].length aj) ∧ W.cell? ⟨qb, qo + k, none⟩ = some (.int .i64 (l.shows[j].getD k 0)) from fun W hW => ⟨cell_below hW y0 (lt_of_cell y0), cell_below hW x0 (lt_of_cell x0), cell_below hW cj (lt_of_cell cj), cell_below hW cq (lt_of_cell cq)⟩)
          have HFS := Lib.hid (show ∀ W u, Below wr.heap.size wr W → (W.setCell ⟨gs, i, none⟩ u).cell? ⟨w2.heap.size + 1, 0, none⟩ = some (.slice (some ⟨gs, 0, none⟩) l.shows.length cU) ∧ (W.setCell ⟨gs, i, none⟩ u).cell? ⟨w.heap.size, 0, none⟩ = some (.slice (some ⟨sb, so, none⟩) l.shows.length c0) ∧ (W.setCell ⟨gs, i, none⟩ u).cell? ⟨sb, so + j, none⟩ = some (.slice (some ⟨qb, qo, none⟩) l.shows[j].length aj) ∧ (W.setCell ⟨gs, i, none⟩ u).cell? ⟨qb, qo + k, none⟩ = some (.int .i64 (l.shows[j].getD k 0)) from fun W u hW => by
           obtain ⟨f1, f2, f3, f4⟩ := HFR.out W hW
           obtain ⟨_, _, us0, e0, _, hul0, hcu0, hru0⟩ := HSV.out W0 (Below.refl _ _)
           cases e0
           obtain ⟨b', o', e1, hcc0⟩ := hcu0.at_ (k := j) (by omega)
           cases e1
           have lsb := lt_of_cell (hcc0 j _ (List.getElem?_eq_getElem (by omega)))
           have cj0 := hcc0 j _ (List.getElem?_eq_getElem (by omega))
           obtain ⟨A0, a0, e2, _, hA0⟩ := hru0 j _ _ (List.getElem?_eq_getElem (by omega)) (List.getElem?_eq_getElem hjn)
           have cj1 := cell_below hd0 cj0 lsb
           rw [cj, e2] at cj1
           injection cj1 with cj1
           injection cj1 with cj1
           subst cj1
           obtain ⟨b'', o'', e3, hcc1⟩ := hA0.int hkn
           cases e3
           have lqb := lt_of_cell (hcc1 k hkn)
           dsimp only at lsb lqb
           refine ⟨?_, ?_, ?_, ?_⟩
           ·exact (World.cell?_setCell_other W _ _ _ (by intro e; simp only [Addr.mk.injEq, and_true] at e; omega)).trans f1
           ·exact (World.cell?_setCell_other W _ _ _ (by intro e; simp only [Addr.mk.injEq, and_true] at e; omega)).trans f2
           ·exact (World.cell?_setCell_other W _ _ _ (by intro e; simp only [Addr.mk.injEq, and_true] at e; omega)).trans f3
           ·exact (World.cell?_setCell_other W _ _ _ (by intro e; simp only [Addr.mk.injEq, and_true] at e; omega)).trans f4)
          clear hnx
          have hrl : Below wr.heap.size wr wr.drew := (Below.refl _ wr).drew
          clear hp hd hd0 hcu hru hcc ej hAj hS hqc hil bb1
          generalize ((l.shows[j].take k).foldl putI (specTo l.shows.length l.shows l.steps i j)) = row at *
          generalize l.shows[j].getD k 0 = x at *
          generalize l.shows[j] = xj at *
          go_wp2_with fail
          refine wp_region_inv (by kernel_rfl) (fun L act W => ∃ (w3 : World) (ra : Option Addr) (rm rc : Nat), act = ⟨#[Value.agg #[Value.slice (some ⟨sb, so, none⟩) l.shows.length c0, Value.slice D l.steps.length d], Value.pointer (some ⟨w.heap.size, 0, none⟩), Value.pointer (some ⟨w.heap.size + 1, 0, none⟩), Value.int IntKind.i64 (l.shows.length : Int), Value.slice (some ⟨gS, 0, none⟩) l.shows.length cS, Value.pointer (some ⟨w2.heap.size + 1, 0, none⟩), Value.slice (some ⟨gt, 0, none⟩) 8 cT, Value.int IntKind.i64 8, Value.int IntKind.i64 (i : Int), Value.int IntKind.i64 (j : Int), Value.int IntKind.i64 (k : Int), u11, u12, Value.pointer (some ⟨w.heap.size, 0, none⟩), Value.slice (some ⟨sb, so, none⟩) l.shows.length c0, Value.int IntKind.i64 (l.shows.length : Int), Value.agg #[Value.slice (some ⟨sb, so, none⟩) l.shows.length c0, Value.slice D l.steps.length d], Value.slice (some ⟨gS, 0, none⟩) l.shows.length cS, Value.int IntKind.i64 (l.shows.length : Int), Value.slice (some ⟨gs, 0, none⟩) l.shows.length cU, Value.slice (some ⟨w2.heap.size, 0, none⟩) 0 0, Value.agg #[Value.slice (some ⟨gs, 0, none⟩) l.shows.length cU, Value.slice (some ⟨w2.heap.size, 0, none⟩) 0 0], Value.slice (some ⟨gS, 0, none⟩) l.shows.length cS, Value.slice (some ⟨W3.heap.size, 0, none⟩) 1 1, Value.int IntKind.i64 8, Value.bool false, u26, u27, u28, u29, u30, u31, u32, u33, u34, Value.int IntKind.i64 (i : Int), Value.int IntKind.i64 (l.shows.length : Int), Value.bool true, u38, u39, Value.int IntKind.i64 (j : Int), Value.int IntKind.i64 (l.shows.length : Int), Value.bool true, u43, u44, Value.int IntKind.i64 (k : Int), Value.pointer (some ⟨w.heap.size, 0, none⟩), Value.slice (some ⟨sb, so, none⟩) l.shows.length c0, Value.int IntKind.i64 (j : Int), Value.pointer (some ⟨sb, so + j, none⟩), Value.slice (some ⟨qb, qo, none⟩) xj.length aj, Value.int IntKind.i64 (xj.length : Int), Value.bool true, Value.bool true, Value.slice (some ⟨gS, 0, none⟩) l.shows.length cS, Value.int IntKind.i64 (i : Int), Value.pointer (some ⟨gS, i, none⟩), Value.slice (some ⟨RS i, 0, none⟩) l.shows.length (CS i), Value.int IntKind.i64 (j : Int), Value.pointer (some ⟨RS i, j, none⟩), Value.bool true, Value.bool true, u62, u63, bsel (L 0) (Value.pointer (some ⟨w2.heap.size + 1, 0, none⟩)) u64, bsel (L 1) (Value.slice (some ⟨gs, 0, none⟩) l.shows.length cU) u65, bsel (L 2) (Value.int IntKind.i64 (i : Int)) u66, bsel (L 3) (Value.pointer (some ⟨w2.heap.size + 1, 0, none⟩)) u67, bsel (L 4) (Value.slice (some ⟨gs, 0, none⟩) l.shows.length cU) u68, bsel (L 5) (Value.int IntKind.i64 (i : Int)) u69, bsel (L 6) (Value.pointer (some ⟨gs, i, none⟩)) u70, bsel (L 7) (Value.slice (some ⟨rb, 0, none⟩) row.length rd) u71, bsel (L 8) (Value.pointer (some ⟨w.heap.size, 0, none⟩)) u72, bsel (L 9) (Value.slice (some ⟨sb, so, none⟩) l.shows.length c0) u73, bsel (L 10) (Value.int IntKind.i64 (j : Int)) u74, bsel (L 11) (Value.pointer (some ⟨sb, so + j, none⟩)) u75, bsel (L 12) (Value.slice (some ⟨qb, qo, none⟩) xj.length aj) u76, bsel (L 13) (Value.int IntKind.i64 (k : Int)) u77, bsel (L 14) (Value.pointer (some ⟨qb, qo + k, none⟩)) u78, bsel (L 15) (Value.int IntKind.i64 x) u79, bsel (L 16) (Value.slice ra rm rc) u80, bsel (L 17) (Value.pointer (some ⟨gs, i, none⟩)) u81, u82, u83, u84, u85, u86, u87, u88, u89, u90, u91, u92, u93, u94, u95, u96, u97, u98, u99, u100, u101, u102, u103, u104, u105, u106, u107, u108, u109, undef], []⟩ ∧ (L 18 = true → ∀ q, q < 18 → L q = true) ∧ (L 16 = true → PutR wr w3 row x rb rd (.slice ra rm rc) ∧ Below wr.heap.size wr w3) ∧ W = bsel (L 18) (w3.setCell ⟨gs, i, none⟩ (.slice ra rm rc)) (bsel (L 16) w3 wr.drew)) ?h0 ?step ?fin
          case h0 => exact ⟨wr, none, 0, 0, rfl, fun h => absurd h Bool.false_ne_true, fun h => absurd h Bool.false_ne_true, rfl⟩
          case step =>
           intro L act W q o hJ hL ho hd K3 hK3
           obtain ⟨w3, ra, rm, rc, rfl, hI, hF, hW⟩ := hJ
           have hbe : L 18 = false → Below wr.heap.size wr W := fun h18 => by
            cases h16 : L 16
            ·rw [hW, h18, h16]; exact hrl
            ·rw [hW, h18, h16]; exact (hF h16).2
           match q, ho with
           | 0, ho =>
            simp only [List.getElem?_toArray, List.getElem?_cons_zero, List.getElem?_cons_succ, Option.some.injEq] at ho
            subst ho
            simp [Region.binds] at hd
            have h18 : L 18 = false := by
             cases e : L 18
             ·rfl
             ·exact absurd (hI e 0 (by omega)) (by simp [hL])
            have hb := hbe h18
            have HF := Lib.hid hF
            have HW := Lib.hid hW
            have HI := Lib.hid hI
            have HB := Lib.hid hb
            clear hF hW hI hb hbe
            go_simp
            exact hK3 _ _ ⟨w3, ra, rm, rc, by simp [upd, bsel], fun h => by rw [upd_other (by decide)] at h; exact absurd h (by simp [h18]), fun h => HF.out (by rwa [upd_other (by decide)] at h), by rw [upd_other (by decide), upd_other (by decide)]; exact HW.out⟩
           | 1, ho =>
            simp only [List.getElem?_toArray, List.getElem?_cons_zero, List.getElem?_cons_succ, Option.some.injEq] at ho
            subst ho
            simp [Region.binds] at hd
            have h18 : L 18 = false := by
             cases e : L 18
             ·rfl
             ·exact absurd (hI e 1 (by omega)) (by simp [hL])
            have hb := hbe h18
            obtain ⟨c1, c2, c3, c4⟩ := HFR.out W hb
            simp only [hd, bsel_t]
            have HF := Lib.hid hF
            have HW := Lib.hid hW
            have HI := Lib.hid hI
            have HB := Lib.hid hb
            clear hF hW hI hb hbe
            go_simp
            exact hK3 _ _ ⟨w3, ra, rm, rc, by simp [upd, bsel, hd], fun h => by rw [upd_other (by decide)] at h; exact absurd h (by simp [h18]), fun h => HF.out (by rwa [upd_other (by decide)] at h), by rw [upd_other (by decide), upd_other (by decide)]; exact HW.out⟩
           | 2, ho =>
            simp only [List.getElem?_toArray, List.getElem?_cons_zero, List.getElem?_cons_succ, Option.some.injEq] at ho
            subst ho
            simp [Region.binds] at hd
            have h18 : L 18 = false := by
             cases e : L 18
             ·rfl
             ·exact absurd (hI e 2 (by omega)) (by simp [hL])
            have hb := hbe h18
            have HF := Lib.hid hF
            have HW := Lib.hid hW
            have HI := Lib.hid hI
            have HB := Lib.hid hb
            clear hF hW hI hb hbe
            go_simp
            exact hK3 _ _ ⟨w3, ra, rm, rc, by simp [upd, bsel], fun h => by rw [upd_other (by decide)] at h; exact absurd h (by simp [h18]), fun h => HF.out (by rwa [upd_other (by decide)] at h), by rw [upd_other (by decide), upd_other (by decide)]; exact HW.out⟩
           | 3, ho =>
            simp only [List.getElem?_toArray, List.getElem?_cons_zero, List.getElem?_cons_succ, Option.some.injEq] at ho
            subst ho
            simp [Region.binds] at hd
            have h18 : L 18 = false := by
             cases e : L 18
             ·rfl
             ·exact absurd (hI e 3 (by omega)) (by simp [hL])
            have hb := hbe h18
            have HF := Lib.hid hF
            have HW := Lib.hid hW
            have HI := Lib.hid hI
            have HB := Lib.hid hb
            clear hF hW hI hb hbe
            go_simp
            exact hK3 _ _ ⟨w3, ra, rm, rc, by simp [upd, bsel], fun h => by rw [upd_other (by decide)] at h; exact absurd h (by simp [h18]), fun h => HF.out (by rwa [upd_other (by decide)] at h), by rw [upd_other (by decide), upd_other (by decide)]; exact HW.out⟩
           | 4, ho =>
            simp only [List.getElem?_toArray, List.getElem?_cons_zero, List.getElem?_cons_succ, Option.some.injEq] at ho
            subst ho
            simp [Region.binds] at hd
            have h18 : L 18 = false := by
             cases e : L 18
             ·rfl
             ·exact absurd (hI e 4 (by omega)) (by simp [hL])
            have hb := hbe h18
            obtain ⟨c1, c2, c3, c4⟩ := HFR.out W hb
            simp only [hd, bsel_t]
            have HF := Lib.hid hF
            have HW := Lib.hid hW
            have HI := Lib.hid hI
            have HB := Lib.hid hb
            clear hF hW hI hb hbe
            go_simp
            exact hK3 _ _ ⟨w3, ra, rm, rc, by simp [upd, bsel, hd], fun h => by rw [upd_other (by decide)] at h; exact absurd h (by simp [h18]), fun h => HF.out (by rwa [upd_other (by decide)] at h), by rw [upd_other (by decide), upd_other (by decide)]; exact HW.out⟩
           | 5, ho =>
            simp only [List.getElem?_toArray, List.getElem?_cons_zero, List.getElem?_cons_succ, Option.some.injEq] at ho
            subst ho
            simp [Region.binds] at hd
            have h18 : L 18 = false := by
             cases e : L 18
             ·rfl
             ·exact absurd (hI e 5 (by omega)) (by simp [hL])
            have hb := hbe h18
            have HF := Lib.hid hF
            have HW := Lib.hid hW
            have HI := Lib.hid hI
            have HB := Lib.hid hb
            clear hF hW hI hb hbe
            go_simp
            exact hK3 _ _ ⟨w3, ra, rm, rc, by simp [upd, bsel], fun h => by rw [upd_other (by decide)] at h; exact absurd h (by simp [h18]), fun h => HF.out (by rwa [upd_other (by decide)] at h), by rw [upd_other (by decide), upd_other (by decide)]; exact HW.out⟩
           | 6, ho =>
            simp only [List.getElem?_toArray, List.getElem?_cons_zero, List.getElem?_cons_succ, Option.some.injEq] at ho
            subst ho
            simp [Region.binds] at hd
            have h18 : L 18 = false := by
             cases e : L 18
             ·rfl
             ·exact absurd (hI e 6 (by omega)) (by simp [hL])
            have hb := hbe h18
            simp only [hd, bsel_t]
            have HF := Lib.hid hF
            have HW := Lib.hid hW
            have HI := Lib.hid hI
            have HB := Lib.hid hb
            clear hF hW hI hb hbe
            go_simp
            exact hK3 _ _ ⟨w3, ra, rm, rc, by simp [upd, bsel, hd], fun h => by rw [upd_other (by decide)] at h; exact absurd h (by simp [h18]), fun h => HF.out (by rwa [upd_other (by decide)] at h), by rw [upd_other (by decide), upd_other (by decide)]; exact HW.out⟩
           | 7, ho =>
            simp only [List.getElem?_toArray, List.getElem?_cons_zero, List.getElem?_cons_succ, Option.some.injEq] at ho
            subst ho
            simp [Region.binds] at hd
            have h18 : L 18 = false := by
             cases e : L 18
             ·rfl
             ·exact absurd (hI e 7 (by omega)) (by simp [hL])
            have hb := hbe h18
            have c5 := cell_below hb hrc (lt_of_cell hrc)
            simp only [hd, bsel_t]
            have HF := Lib.hid hF
            have HW := Lib.hid hW
            have HI := Lib.hid hI
            have HB := Lib.hid hb
            clear hF hW hI hb hbe
            go_simp
            exact hK3 _ _ ⟨w3, ra, rm, rc, by simp [upd, bsel, hd], fun h => by rw [upd_other (by decide)] at h; exact absurd h (by simp [h18]), fun h => HF.out (by rwa [upd_other (by decide)] at h), by rw [upd_other (by decide), upd_other (by decide)]; exact HW.out⟩
           | 8, ho =>
            simp only [List.getElem?_toArray, List.getElem?_cons_zero, List.getElem?_cons_succ, Option.some.injEq] at ho
            subst ho
            simp [Region.binds] at hd
            have h18 : L 18 = false := by
             cases e : L 18
             ·rfl
             ·exact absurd (hI e 8 (by omega)) (by simp [hL])
            have hb := hbe h18
            have HF := Lib.hid hF
            have HW := Lib.hid hW
            have HI := Lib.hid hI
            have HB := Lib.hid hb
            clear hF hW hI hb hbe
            go_simp
            exact hK3 _ _ ⟨w3, ra, rm, rc, by simp [upd, bsel], fun h => by rw [upd_other (by decide)] at h; exact absurd h (by simp [h18]), fun h => HF.out (by rwa [upd_other (by decide)] at h), by rw [upd_other (by decide), upd_other (by decide)]; exact HW.out⟩
           | 9, ho =>
            simp only [List.getElem?_toArray, List.getElem?_cons_zero, List.getElem?_cons_succ, Option.some.injEq] at ho
            subst ho
            simp [Region.binds] at hd
            have h18 : L 18 = false := by
             cases e : L 18
             ·rfl
             ·exact absurd (hI e 9 (by omega)) (by simp [hL])
            have hb := hbe h18
            obtain ⟨c1, c2, c3, c4⟩ := HFR.out W hb
            simp only [hd, bsel_t]
            have HF := Lib.hid hF
            have HW := Lib.hid hW
            have HI := Lib.hid hI
            have HB := Lib.hid hb
            clear hF hW hI hb hbe
            go_simp
            exact hK3 _ _ ⟨w3, ra, rm, rc, by simp [upd, bsel, hd], fun h => by rw [upd_other (by decide)] at h; exact absurd h (by simp [h18]), fun h => HF.out (by rwa [upd_other (by decide)] at h), by rw [upd_other (by decide), upd_other (by decide)]; exact HW.out⟩
           | 10, ho =>
            simp only [List.getElem?_toArray, List.getElem?_cons_zero, List.getElem?_cons_succ, Option.some.injEq] at ho
            subst ho
            simp [Region.binds] at hd
            have h18 : L 18 = false := by
             cases e : L 18
             ·rfl
             ·exact absurd (hI e 10 (by omega)) (by simp [hL])
            have hb := hbe h18
            have HF := Lib.hid hF
            have HW := Lib.hid hW
            have HI := Lib.hid hI
            have HB := Lib.hid hb
            clear hF hW hI hb hbe
            go_simp
            exact hK3 _ _ ⟨w3, ra, rm, rc, by simp [upd, bsel], fun h => by rw [upd_other (by decide)] at h; exact absurd h (by simp [h18]), fun h => HF.out (by rwa [upd_other (by decide)] at h), by rw [upd_other (by decide), upd_other (by decide)]; exact HW.out⟩
           | 11, ho =>
            simp only [List.getElem?_toArray, List.getElem?_cons_zero, List.getElem?_cons_succ, Option.some.injEq] at ho
            subst ho
            simp [Region.binds] at hd
            have h18 : L 18 = false := by
             cases e : L 18
             ·rfl
             ·exact absurd (hI e 11 (by omega)) (by simp [hL])
            have hb := hbe h18
            simp only [hd, bsel_t]
            have HF := Lib.hid hF
            have HW := Lib.hid hW
            have HI := Lib.hid hI
            have HB := Lib.hid hb
            clear hF hW hI hb hbe
            go_simp
            exact hK3 _ _ ⟨w3, ra, rm, rc, by simp [upd, bsel, hd], fun h => by rw [upd_other (by decide)] at h; exact absurd h (by simp [h18]), fun h => HF.out (by rwa [upd_other (by decide)] at h), by rw [upd_other (by decide), upd_other (by decide)]; exact HW.out⟩
           | 12, ho =>
            simp only [List.getElem?_toArray, List.getElem?_cons_zero, List.getElem?_cons_succ, Option.some.injEq] at ho
            subst ho
            simp [Region.binds] at hd
            have h18 : L 18 = false := by
             cases e : L 18
             ·rfl
             ·exact absurd (hI e 12 (by omega)) (by simp [hL])
            have hb := hbe h18
            obtain ⟨c1, c2, c3, c4⟩ := HFR.out W hb
            simp only [hd, bsel_t]
            have HF := Lib.hid hF
            have HW := Lib.hid hW
            have HI := Lib.hid hI
            have HB := Lib.hid hb
            clear hF hW hI hb hbe
            go_simp
            exact hK3 _ _ ⟨w3, ra, rm, rc, by simp [upd, bsel, hd], fun h => by rw [upd_other (by decide)] at h; exact absurd h (by simp [h18]), fun h => HF.out (by rwa [upd_other (by decide)] at h), by rw [upd_other (by decide), upd_other (by decide)]; exact HW.out⟩
           | 13, ho =>
            simp only [List.getElem?_toArray, List.getElem?_cons_zero, List.getElem?_cons_succ, Option.some.injEq] at ho
            subst ho
            simp [Region.binds] at hd
            have h18 : L 18 = false := by
             cases e : L 18
             ·rfl
             ·exact absurd (hI e 13 (by omega)) (by simp [hL])
            have hb := hbe h18
            have HF := Lib.hid hF
            have HW := Lib.hid hW
            have HI := Lib.hid hI
            have HB := Lib.hid hb
            clear hF hW hI hb hbe
            go_simp
            exact hK3 _ _ ⟨w3, ra, rm, rc, by simp [upd, bsel], fun h => by rw [upd_other (by decide)] at h; exact absurd h (by simp [h18]), fun h => HF.out (by rwa [upd_other (by decide)] at h), by rw [upd_other (by decide), upd_other (by decide)]; exact HW.out⟩
           | 14, ho =>
            simp only [List.getElem?_toArray, List.getElem?_cons_zero, List.getElem?_cons_succ, Option.some.injEq] at ho
            subst ho
            simp [Region.binds] at hd
            have h18 : L 18 = false := by
             cases e : L 18
             ·rfl
             ·exact absurd (hI e 14 (by omega)) (by simp [hL])
            have hb := hbe h18
            simp only [hd, bsel_t]
            have HF := Lib.hid hF
            have HW := Lib.hid hW
            have HI := Lib.hid hI
            have HB := Lib.hid hb
            clear hF hW hI hb hbe
            go_simp
            exact hK3 _ _ ⟨w3, ra, rm, rc, by simp [upd, bsel, hd], fun h => by rw [upd_other (by decide)] at h; exact absurd h (by simp [h18]), fun h => HF.out (by rwa [upd_other (by decide)] at h), by rw [upd_other (by decide), upd_other (by decide)]; exact HW.out⟩
           | 15, ho =>
            simp only [List.getElem?_toArray, List.getElem?_cons_zero, List.getElem?_cons_succ, Option.some.injEq] at ho
            subst ho
            simp [Region.binds] at hd
            have h18 : L 18 = false := by
             cases e : L 18
             ·rfl
             ·exact absurd (hI e 15 (by omega)) (by simp [hL])
            have hb := hbe h18
            obtain ⟨c1, c2, c3, c4⟩ := HFR.out W hb
            simp only [hd, bsel_t]
            have HF := Lib.hid hF
            have HW := Lib.hid hW
            have HI := Lib.hid hI
            have HB := Lib.hid hb
            clear hF hW hI hb hbe
            go_simp
            exact hK3 _ _ ⟨w3, ra, rm, rc, by simp [upd, bsel, hd], fun h => by rw [upd_other (by decide)] at h; exact absurd h (by simp [h18]), fun h => HF.out (by rwa [upd_other (by decide)] at h), by rw [upd_other (by decide), upd_other (by decide)]; exact HW.out⟩
           | 16, ho =>
            simp only [List.getElem?_toArray, List.getElem?_cons_zero, List.getElem?_cons_succ, Option.some.injEq] at ho
            subst ho
            simp [Region.binds] at hd
            have h18 : L 18 = false := by
             cases e : L 18
             ·rfl
             ·exact absurd (hI e 16 (by omega)) (by simp [hL])
            have hb := hbe h18
            have hWd : W = wr.drew := by rw [hW, h18, hL]; rfl
            subst hWd
            simp only [hd, bsel_t]
            clear hF hW hI hb hbe
            go_simp
            go_at_call 164
            refine (HPUT.out _ hrl).mono ?_
            rintro e w4 ⟨ra', rm', rc', rfl, hr', hb3'⟩
            have HR := Lib.hid hr'
            have HB := Lib.hid hb3'
            clear hr' hb3'
            go_simp
            exact hK3 _ _ ⟨w4, ra', rm', rc', by simp [upd, bsel, hd], fun h => by rw [upd_other (by decide)] at h; exact absurd h (by simp [h18]), fun _ => ⟨HR.out, HB.out⟩, by rw [upd_other (by decide), upd_same, h18]; rfl⟩
           | 17, ho =>
            simp only [List.getElem?_toArray, List.getElem?_cons_zero, List.getElem?_cons_succ, Option.some.injEq] at ho
            subst ho
            simp [Region.binds] at hd
            have h18 : L 18 = false := by
             cases e : L 18
             ·rfl
             ·exact absurd (hI e 17 (by omega)) (by simp [hL])
            have hb := hbe h18
            simp only [hd, bsel_t]
            have HF := Lib.hid hF
            have HW := Lib.hid hW
            have HI := Lib.hid hI
            have HB := Lib.hid hb
            clear hF hW hI hb hbe
            go_simp
            exact hK3 _ _ ⟨w3, ra, rm, rc, by simp [upd, bsel, hd], fun h => by rw [upd_other (by decide)] at h; exact absurd h (by simp [h18]), fun h => HF.out (by rwa [upd_other (by decide)] at h), by rw [upd_other (by decide), upd_other (by decide)]; exact HW.out⟩
           | 18, ho =>
            simp only [List.getElem?_toArray, List.getElem?_cons_zero, List.getElem?_cons_succ, Option.some.injEq] at ho
            subst ho
            simp [Region.binds] at hd
            have h16 : L 16 = true := by simp [hd]
            have hWd : W = w3 := by rw [hW, hL, h16]; rfl
            have hb := hbe hL
            have c5 := cell_below hb hrc (lt_of_cell hrc)
            have c6 : W.frozen? ⟨gs, i, none⟩ = false := (World.frozen?_of_block (a := ⟨gs, i, none⟩) (hb.block gs hgs1')).trans hrf
            subst hWd
            simp only [hd, bsel_t]
            have HF := Lib.hid (hF h16)
            clear hF hW hI hb hbe
            go_simp
            exact hK3 _ _ ⟨W, ra, rm, rc, by simp [upd, bsel, hd], fun _ q hq => by rcases (show q = 0 ∨ q = 1 ∨ q = 2 ∨ q = 3 ∨ q = 4 ∨ q = 5 ∨ q = 6 ∨ q = 7 ∨ q = 8 ∨ q = 9 ∨ q = 10 ∨ q = 11 ∨ q = 12 ∨ q = 13 ∨ q = 14 ∨ q = 15 ∨ q = 16 ∨ q = 17 by omega) with rfl | rfl | rfl | rfl | rfl | rfl | rfl | rfl | rfl | rfl | rfl | rfl | rfl | rfl | rfl | rfl | rfl | rfl <;> simp [upd, hd], fun _ => HF.out, by rw [upd_same]; rfl⟩
           | q + 19, ho => simp at ho
          case fin =>
           intro L act W hJ hfin
           obtain ⟨w3, ra, rm, rc, rfl, hI, hF, hW⟩ := hJ
           have l0 : L 0 = true := by
            cases e : L 0
            ·have x := hfin 0 _ rfl e
             simp [Region.binds] at x
            ·rfl
           have l1 : L 1 = true := by
            cases e : L 1
            ·have x := hfin 1 _ rfl e
             simp [Region.binds, l0] at x
            ·rfl
           have l2 : L 2 = true := by
            cases e : L 2
            ·have x := hfin 2 _ rfl e
             simp [Region.binds] at x
            ·rfl
           have l3 : L 3 = true := by
            cases e : L 3
            ·have x := hfin 3 _ rfl e
             simp [Region.binds] at x
            ·rfl
           have l4 : L 4 = true := by
            cases e : L 4
            ·have x := hfin 4 _ rfl e
             simp [Region.binds, l3] at x
            ·rfl
           have l5 : L 5 = true := by
            cases e : L 5
            ·have x := hfin 5 _ rfl e
             simp [Region.binds] at x
            ·rfl
           have l6 : L 6 = true := by
            cases e : L 6
            ·have x := hfin 6 _ rfl e
             simp [Region.binds, l4, l5] at x
            ·rfl
           have l7 : L 7 = true := by
            cases e : L 7
            ·have x := hfin 7 _ rfl e
             simp [Region.binds, l6] at x
            ·rfl
           have l8 : L 8 = true := by
            cases e : L 8
            ·have x := hfin 8 _ rfl e
             simp [Region.binds] at x
            ·rfl
           have l9 : L 9 = true := by
            cases e : L 9
            ·have x := hfin 9 _ rfl e
             simp [Region.binds, l8] at x
            ·rfl
           have l10 : L 10 = true := by
            cases e : L 10
            ·have x := hfin 10 _ rfl e
             simp [Region.binds] at x
            ·rfl
           have l11 : L 11 = true := by
            cases e : L 11
            ·have x := hfin 11 _ rfl e
             simp [Region.binds, l9, l10] at x
            ·rfl
           have l12 : L 12 = true := by
            cases e : L 12
            ·have x := hfin 12 _ rfl e
             simp [Region.binds, l11] at x
            ·rfl
           have l13 : L 13 = true := by
            cases e : L 13
            ·have x := hfin 13 _ rfl e
             simp [Region.binds] at x
            ·rfl
           have l14 : L 14 = true := by
            cases e : L 14
            ·have x := hfin 14 _ rfl e
             simp [Region.binds, l12, l13] at x
            ·rfl
           have l15 : L 15 = true := by
            cases e : L 15
            ·have x := hfin 15 _ rfl e
             simp [Region.binds, l14] at x
            ·rfl
           have l16 : L 16 = true := by
            cases e : L 16
            ·have x := hfin 16 _ rfl e
             simp [Region.binds, l7, l15] at x
            ·rfl
           have l17 : L 17 = true := by
            cases e : L 17
            ·have x := hfin 17 _ rfl e
             simp [Region.binds, l0, l1, l2, l3, l4, l5, l6, l7, l8, l9, l10, l11, l12, l13, l14, l15, l16] at x
            ·rfl
           have l18 : L 18 = true := by
            cases e : L 18
            ·have x := hfin 18 _ rfl e
             simp [Region.binds, l0, l1, l2, l3, l4, l5, l6, l7, l8, l9, l10, l11, l12, l13, l14, l15, l16, l17] at x
            ·rfl
           obtain ⟨hr, hb3⟩ := hF l16
           rw [l18] at hW
           have hW' : W = w3.setCell ⟨gs, i, none⟩ (.slice ra rm rc) := hW
           clear hW
           subst hW'
           simp only [l0, l1, l2, l3, l4, l5, l6, l7, l8, l9, l10, l11, l12, l13, l14, l15, l16, l17, bsel_t]
           have k7 := cell_below hb3 hrc (lt_of_cell hrc)
           clear hI hF hfin l0 l1 l2 l3 l4 l5 l6 l7 l8 l9 l10 l11 l12 l13 l14 l15 l16 l17 l18
           have HPN := Lib.hid (show P2 W2 w1.heap.size W3.heap.size (w2.heap.size + 1) gs cU l.shows.length (rowsF l.shows.length (shR l.shows.length l.shows l.steps i (putI row x))) (stJ l.shows.length l.steps i 0 0) (w3.setCell ⟨gs, i, none⟩ (.slice ra rm rc)) from by
            rcases hr with ⟨e, e2⟩ | ⟨ho, hb⟩
            ·rw [e2, e]
             exact HP.out.same hb3 k7
            ·rw [← rows_set (c := row)]
             exact HP.out.put hin hb3 ho hb)
           clear hr hb3 k7 hrc hrf hrC hrb
           go_wp2_with fail
           go_roundw
           case rel => first | exact ⟨k + 1, by omega, by go_num, by rw [HNX.out]; exact HPN.out⟩ | ((repeat apply Exists.intro); exact ⟨⟨k + 1, by omega, by go_num, by rw [HNX.out]; exact HPN.out⟩, rfl⟩)
           case measure => simp [intOf]; omega
         ·obtain rfl : k = l.shows[j].length := by omega
          rw [List.take_length, ← HN.out] at HP
          clear hp hd hd0 hcu hru hcc ej hAj hS HLEN HSRT HN
          generalize l.shows[j] = xj at *
          go_wp2_with fail
          go_roundw
          case rel => first | exact ⟨j + 1, by omega, by go_num, HP.out⟩ | ((repeat apply Exists.intro); exact ⟨⟨j + 1, by omega, by go_num, HP.out⟩, rfl⟩)
          case measure => simp [intOf]; omega
      ·obtain rfl : j = l.shows.length := by omega
       have HP := Lib.hid (show P2 W2 w1.heap.size W3.heap.size (w2.heap.size + 1) gs cU l.shows.length (rowsF l.shows.length (shR l.shows.length l.shows l.steps (i + 1) [])) (stJ l.shows.length l.steps i 0 0) wr from by rw [← rows_next, ← specTo_all]; exact HP.out)
       clear hp
       go_wp2_with fail
       go_loopw [11] (fun q wr => ∃ a : Nat, a ≤ 8 ∧ q = .int .i64 a ∧ P2 W2 w1.heap.size W3.heap.size (w2.heap.size + 1) gs cU l.shows.length (rowsF l.shows.length (shR l.shows.length l.shows l.steps (i + 1) [])) (stJ l.shows.length l.steps i a 0) wr)
        (fun q _ => 8 - (intOf q).toNat)
       case atStart => exact ⟨0, Nat.zero_le _, rfl, HP.out⟩
       case round =>
        clear HP
        obtain ⟨a, ha, rfl, hp⟩ := hrel
        have HP := Lib.hid hp
        by_cases ha8 : a < 8
        ·clear hp
         have b5 : (a : Int) < 8 := by omega
         go_wp2_with fail
         go_loopw [12] (fun q wr => ∃ j : Nat, j ≤ l.shows.length ∧ q = .int .i64 j ∧ P2 W2 w1.heap.size W3.heap.size (w2.heap.size + 1) gs cU l.shows.length (rowsF l.shows.length (shR l.shows.length l.shows l.steps (i + 1) [])) (stJ l.shows.length l.steps i a j) wr)
          (fun q _ => l.shows.length - (intOf q).toNat)
         case atStart => exact ⟨0, Nat.zero_le _, rfl, HP.out⟩
         case round =>
          clear HP
          obtain ⟨j, hj, rfl, hp⟩ := hrel
          have HP := Lib.hid hp
          by_cases hjn : j < l.shows.length
          ·obtain ⟨g4, c4, R4, C4, o0, hT⟩ := HTB.out wr hp.keep a ha8
           have o1 := hT.outer i hin
           obtain ⟨n1, _⟩ := hT.inner i j hin hjn
           have b0 : (0 : Int) ≤ (i : Int) := by omega
           have b1 : (i : Int) < (l.shows.length : Int) := by omega
           have b2 : (0 : Int) ≤ (j : Int) := by omega
           have b3 : (j : Int) < (l.shows.length : Int) := by omega
           have b4 : (0 : Int) ≤ (a : Int) := by omega
           cases hF : tabF l.shows.length l.steps a i j
           ·have HN := Lib.hid (stJ_no (n := l.shows.length) hF)
            rw [hF] at n1
            clear hp hT hF
            go_wp2_with fail
            go_roundw
            case rel => first | exact ⟨j + 1, by omega, by go_num, by rw [HN.out]; exact HP.out⟩ | ((repeat apply Exists.intro); exact ⟨⟨j + 1, by omega, by go_num, by rw [HN.out]; exact HP.out⟩, rfl⟩)
            case measure => simp [intOf]; omega
           ·have HN := Lib.hid (stJ_yes (n := l.shows.length) hF)
            rw [hF] at n1
            have hlen := stJ_len (n := l.shows.length) (ss := l.steps) (i := i) (a := a) (j := j) hn40 (by omega) (by omega) (by omega)
            obtain ⟨tu, bb1, bb2, bb3⟩ := hp.box
            obtain ⟨AS, cS', rfl, bb2⟩ := owns_form bb2
            obtain ⟨y0, y1, y2, y3⟩ := box_two bb1
            have hs3r : w1.heap.size ≤ wr.heap.size := (HDN.out wr hp.keep).size
            have B1 := Lib.hid bb1
            have B2 := Lib.hid bb2
            have B3 := Lib.hid bb3
            clear hp hT hF bb1 bb2 bb3
            generalize stJ l.shows.length l.steps i a j = sj at *
            go_wp2_with (at_builtin; refine wpList_app el_a3 rfl _ _ rfl w1.heap.size _ _ _ rfl B2.out (tri ((i : Int), (a : Int), (j : Int))) rfl rfl rfl (fun u hu => by simp [tri] at hu; rcases hu with rfl | rfl | rfl <;> rfl) (by omega) hs3r ?_; intro v5 w5 ho5 hk5 hm5; obtain ⟨A5, c5, rfl, ho5⟩ := owns_form ho5; have hb5 := (hk5.block (w2.heap.size + 1) (Array.getElem?_eq_some_iff.1 B1.out).1 (owns_ne B2.out B1.out (by decide))).trans B1.out; obtain ⟨z0, z1, z2, z3⟩ := box_two hb5)
            have HPP := Lib.hid (HP.out.push B1.out B2.out B3.out ho5 hk5 hm5)
            clear ho5 hk5 hm5 hb5 z0 z1 z2 z3 y0 y1 y2 y3
            go_wp2_with fail
            go_roundw
            case rel => first | exact ⟨j + 1, by omega, by go_num, by rw [HN.out]; exact HPP.out⟩ | ((repeat apply Exists.intro); exact ⟨⟨j + 1, by omega, by go_num, by rw [HN.out]; exact HPP.out⟩, rfl⟩)
            case measure => simp [intOf]; omega
          ·obtain rfl : j = l.shows.length := by omega
           rw [stJ_nexta] at HP
           clear hp
           go_wp2_with fail
           go_roundw
           case rel => first | exact ⟨a + 1, by omega, by go_num, HP.out⟩ | ((repeat apply Exists.intro); exact ⟨⟨a + 1, by omega, by go_num, HP.out⟩, rfl⟩)
           case measure => simp [intOf]; omega
        ·obtain rfl : a = 8 := by omega
         rw [stJ_nexti] at HP
         clear hp
         go_wp2_with fail
         go_roundw
         case rel => first | exact ⟨i + 1, by omega, by go_num, HP.out⟩ | ((repeat apply Exists.intro); exact ⟨⟨i + 1, by omega, by go_num, HP.out⟩, rfl⟩)
         case measure => simp [intOf]; omega
    ·obtain rfl : i = l.shows.length := by omega
     have hd := HDN.out wr hp.keep
     have hd0 := HB01.out.trans (hd.mono hs01)
     obtain ⟨r0, r1, r2, r3⟩ := box_two (HR.out wr hd0)
     rw [rows_all, stJ_all] at hp
     obtain ⟨A9, c9, p0, p1, hown9⟩ := hp.own
     have hlr : ((List.range l.shows.length).map (specShow l.shows.length l.shows l.steps)).length = l.shows.length := by simp
     rw [hlr] at p0 hown9
     have hs30 : W0.heap.size ≤ w1.heap.size := hs01
     have hsz9 := hd0.size
     have hne : w.heap.size + 1 ≠ w2.heap.size + 1 := by omega
     have hk9 : ∀ x y, Kept (fun q => q = w.heap.size + 1) wr ((wr.setCell ⟨w.heap.size + 1, 0, none⟩ x).setCell ⟨w.heap.size + 1, 1, none⟩ y) := fun x y =>
      Kept.setCell (S := fun q => q = w.heap.size + 1) (Kept.setCell (S := fun q => q = w.heap.size + 1) (Kept.refl _ wr) (p := ⟨w.heap.size + 1, 0, none⟩) rfl x) (p := ⟨w.heap.size + 1, 1, none⟩) rfl y
     have HOW := Lib.hid (fun x y => (hown9.kept (hk9 x y) (fun q h1 h2 => by omega)).wide (T := fun b => w.heap.size ≤ b ∧ b < ((wr.setCell ⟨w.heap.size + 1, 0, none⟩ x).setCell ⟨w.heap.size + 1, 1, none⟩ y).heap.size) (fun q hq => ⟨by omega, Nat.lt_of_lt_of_le hq.2 (hk9 x y).size⟩))
     have HBE := Lib.hid (fun x y => ((HZ0.out.trans (hd0.mono hsz0)).setCell (p := ⟨w.heap.size + 1, 0, none⟩) (by dsimp only; omega) x).setCell (p := ⟨w.heap.size + 1, 1, none⟩) (by dsimp only; omega) y)
     have HCE := Lib.hid (fun x y => box_two (heap_setCell_same _ (w.heap.size + 1) 1 _ _ y (heap_setCell_same _ (w.heap.size + 1) 0 _ _ x (HR.out wr hd0))))
     clear hp hd hd0 hk9 hown9
     go_wp2_with fail
     obtain ⟨k0, k1, _, _⟩ := HCE.out (.slice (some ⟨gs, 0, none⟩) l.shows.length cU) (.slice A9 (specSat l.shows.length l.steps).length c9)
     refine bodyPost_ret (v := .agg #[.slice (some ⟨gs, 0, none⟩) l.shows.length cU, .slice A9 (specSat l.shows.length l.steps).length c9]) (by simp [results, Tryz.results101, go_sem, *]) rfl ⟨_, rfl, ?_, ?_⟩
     ·exact HOW.out _ _
     ·exact HBE.out _ _

end Go.Proofs.YtdgnhfhaaghoaaaGreatDoor
