/- Plain: atoms, ions, substitutions, names, closures, identities, mergings: they are valid. Plain: lists that have each number once; permutations and swaps. -/
import Derived.Test.YtijkdpdmclkmlaaGreatDoorProg
import Derived.Test.YtijkdpdmclkmlaaGreatDoorJ8
set_option linter.unusedSimpArgs false
set_option linter.unusedVariables false
namespace Go.Proofs.YtijkdpdmclkmlaaGreatDoor
open Go.RowKit

/-- Atoms, ions, substitutions, new names, closures. -/
def atomG (c : Int) (names outs : List ByteArray) : Gr := ⟨1, [(c, -1, names.map (atS outs))], [], 0, outs, []⟩
def ionG (c : Int) (names outs : List ByteArray) : Gr := ⟨1, [(c, -1, names.map (atS outs))], [0], 0, outs, []⟩
def subG (from_ to outs : List ByteArray) : Gr := ⟨0, [], [], 0, outs, (List.range from_.length).map fun i : Nat => (from_.getD i default, atS outs (to.getD i default))⟩
section
variable {sig : List Ct} {names outs from_ to : List ByteArray} {c : Int}
/-- All sites under one root; roots alone. -/
def mergeG (n : Nat) : Gr := ⟨1, [], List.replicate n (-1), 0, [], []⟩
end

end Go.Proofs.YtijkdpdmclkmlaaGreatDoor

set_option linter.unusedVariables false
namespace Go.Proofs.YtijkdpdmclkmlaaGreatDoor
open Go.RowKit

/-- A list that has each number below its length: by sorting, and by looking for each. -/
def upto (k : Int) (n : Nat) : List Int := (List.range n).map fun i : Nat => k + (i : Int)
theorem upto_cons (k : Int) (n : Nat) : upto k (n + 1) = k :: upto (k + 1) n := by
  unfold upto
  rw [List.range_succ_eq_map, List.map_cons, List.map_map]
  congr 1
  · simp
  · refine List.map_congr_left fun i _ => ?_
    simp only [Function.comp]
    omega
theorem mem_upto {k x : Int} {n : Nat} : x ∈ upto k n ↔ k ≤ x ∧ x < k + n := by
  unfold upto
  rw [List.mem_map]
  constructor
  · rintro ⟨i, hi, rfl⟩
    have := List.mem_range.1 hi
    omega
  · intro h
    exact ⟨(x - k).toNat, List.mem_range.2 (by omega), by omega⟩
theorem sorted_upto : ∀ (n : Nat) (s : List Int) (k : Int), s.length = n → s.Pairwise (· ≤ ·) → (∀ x, k ≤ x → x < k + n → x ∈ s) → s = upto k n
  | 0, s, k, hl, _, _ => by rw [List.length_eq_zero_iff.1 hl]; rfl
  | n + 1, [], k, hl, _, _ => by simp at hl
  | n + 1, x :: t, k, hl, hs, hm => by
    have hl2 : t.length = n := by simpa using hl
    have hs2 := (List.pairwise_cons.1 hs).2
    have hx := (List.pairwise_cons.1 hs).1
    by_cases he : x = k
    · subst he
      rw [upto_cons, sorted_upto n t (x + 1) hl2 hs2 fun y h1 h2 => ?_]
      have h3 := hm y (by omega) (by omega)
      rcases List.mem_cons.1 h3 with h | h
      · omega
      · exact h
    · exfalso
      have hk := hm k (by omega) (by omega)
      have hkt : k ∈ t := by
        rcases List.mem_cons.1 hk with h | h
        · exact absurd h.symm he
        · exact h
      have hxk := hx k hkt
      have ht : ∀ y, k ≤ y → y < k + (n + 1 : Nat) → y ∈ t := fun y h1 h2 => by
        rcases List.mem_cons.1 (hm y h1 h2) with h | h
        · omega
        · exact h
      have e := sorted_upto n t k hl2 hs2 fun y h1 h2 => ht y h1 (by omega)
      have h4 := ht (k + n) (by omega) (by omega)
      rw [e, mem_upto] at h4
      omega
def sortI (l : List Int) : List Int := l.mergeSort fun x y => decide (x ≤ y)
theorem sortI_pair (l : List Int) : (sortI l).Pairwise (· ≤ ·) := by
  have := List.pairwise_mergeSort (le := fun x y : Int => decide (x ≤ y)) (fun a b c h1 h2 => by simp at *; omega) (fun a b => by simp; omega) l
  exact this.imp (by simp)
theorem sortI_mem {l : List Int} {x : Int} : x ∈ sortI l ↔ x ∈ l := (List.mergeSort_perm l _).mem_iff
theorem sortI_len (l : List Int) : (sortI l).length = l.length := List.length_mergeSort _
def orderB (n : Int) (l : List Int) : Bool := allR (sortI l).length (fun i => (sortI l).getD i 0 == (i : Int)) && ((l.length : Int) == n)
/-- A list that has each number below n once. -/
def OrdP (n : Int) (l : List Int) : Prop := (l.length : Int) = n ∧ ∀ x : Int, 0 ≤ x → x < n → x ∈ l
theorem order_iff (n : Int) (l : List Int) : orderB n l = true ↔ OrdP n l := by
  unfold orderB OrdP
  rw [Bool.and_eq_true, beq_iff_eq, allR_iff]
  constructor
  · rintro ⟨h1, h2⟩
    refine ⟨h2, fun x h3 h4 => ?_⟩
    rw [← sortI_mem]
    have hx : x.toNat < (sortI l).length := by rw [sortI_len]; omega
    have := h1 _ hx
    rw [beq_iff_eq] at this
    have h5 : (sortI l)[x.toNat]? = some x := by rw [getD_lt (d := 0) hx, this]; congr 1; omega
    exact List.mem_of_getElem? h5
  · rintro ⟨h2, h1⟩
    refine ⟨fun j hj => ?_, h2⟩
    have e := sorted_upto l.length (sortI l) 0 (sortI_len l) (sortI_pair l) fun x h3 h4 => sortI_mem.2 (h1 x h3 (by omega))
    rw [sortI_len] at hj
    rw [beq_iff_eq, e]
    unfold upto
    rw [getD_some (x := (0 : Int) + (j : Int)) (by rw [List.getElem?_map, List.getElem?_range hj]; rfl)]
    omega
/-- Each number below n stands in the list once. -/
theorem ord_inj {n : Int} {l : List Int} (h : OrdP n l) {i j : Nat} (hi : i < l.length) (hj : j < l.length) (e : l.getD i 0 = l.getD j 0) : i = j := by
  have hs := sorted_upto l.length (sortI l) 0 (sortI_len l) (sortI_pair l) fun x h3 h4 => sortI_mem.2 (h.2 x h3 (by have := h.1; omega))
  have hnd : (sortI l).Nodup := by
    rw [hs]
    unfold upto
    exact List.Pairwise.map (fun i : Nat => (0 : Int) + (i : Int)) (fun a b hab e => hab (by omega)) List.nodup_range
  have hnl : l.Nodup := ((List.mergeSort_perm l fun x y : Int => decide (x ≤ y)).nodup_iff).1 hnd
  have e1 := getD_lt (d := 0) hi
  have e2 := getD_lt (d := 0) hj
  rw [e] at e1
  exact (List.getElem?_inj hi hnl).1 (e1.trans e2.symm)
theorem ord_lt {n : Int} {l : List Int} (h : OrdP n l) {x : Int} (hx : x ∈ l) : 0 ≤ x ∧ x < n := by
  have hs := sorted_upto l.length (sortI l) 0 (sortI_len l) (sortI_pair l) fun y h3 h4 => sortI_mem.2 (h.2 y h3 (by have := h.1; omega))
  have := sortI_mem.2 hx
  rw [hs, mem_upto] at this
  have := h.1
  omega
/-- Permutations, and swaps. -/
def permG (t : List Int) : Gr := ⟨t.length, [], t.map fun r => -1 - r, 0, [], []⟩
section
variable {sig : List Ct} {t u : List Int}
theorem perm_id (n : Nat) : permG (upto 0 n) = idG n [] := by
  refine gr_ext _ _ ?_ rfl ?_ rfl rfl rfl
  · show ((upto 0 n).length : Int) = (n : Int)
    simp [upto]
  · show (upto 0 n).map _ = (List.range n).map _
    unfold upto
    rw [List.map_map]
    refine List.map_congr_left fun i _ => ?_
    simp only [Function.comp]
    omega
end
/-- Permutations: by sorting, and by the holes of each root. -/
def holesG (g : Gr) (p : Int) : List Int := ((List.range g.sites.length).filter fun i => g.sites.getD i 0 == p).map fun i : Nat => (i : Int)
def placB (g : Gr) : Bool := decide (g.nodes.length = 0) && decide (g.edges = 0) && decide (g.outer.length = 0) && decide (g.inner.length = 0)
def undG (g : Gr) : List Int := g.sites.map fun p => -1 - p
def permB (g : Gr) : Bool := placB g && orderB g.roots (undG g)
def permuB (g : Gr) : Bool := allR g.roots.toNat (fun r => ((holesG g (-1 - (r : Int))).length : Int) == 1) && (placB g && ((g.sites.length : Int) == g.roots))
theorem one_filter {n : Nat} {p : Nat → Bool} {i : Nat} (hi : i < n) (hp : p i = true) (h : ∀ j, j < n → p j = true → j = i) : ((List.range n).filter p).length = 1 := by
  have e : (List.range n).filter p = [i] := by
    have hnd : ((List.range n).filter p).Nodup := List.nodup_range.filter p
    have hm : ∀ j, j ∈ (List.range n).filter p ↔ j = i := fun j => by
      rw [List.mem_filter, List.mem_range]
      exact ⟨fun ⟨a, b⟩ => h j a b, fun e => by subst e; exact ⟨hi, hp⟩⟩
    match hl : (List.range n).filter p with
    | [] => have := (hm i).2 rfl; rw [hl] at this; simp at this
    | [x] => have := (hm x).1 (by rw [hl]; simp); rw [this]
    | x :: y :: t =>
      have h1 := (hm x).1 (by rw [hl]; simp)
      have h2 := (hm y).1 (by rw [hl]; simp)
      rw [hl] at hnd
      exact absurd (h1.trans h2.symm) (by have := (List.nodup_cons.1 hnd).1; intro e; apply this; rw [e]; simp)
  rw [e]; rfl
theorem und_at {g : Gr} {i : Nat} (hi : i < g.sites.length) : (undG g).getD i 0 = -1 - g.sites.getD i 0 := getD_some (by unfold undG; rw [List.getElem?_map, getD_lt (d := 0) hi]; rfl)
theorem perm_same {sig : List Ct} {g : Gr} (hg : GoodP sig g) : permB g = permuB g := by
  unfold permB permuB
  cases hpl : placB g
  · simp
  · simp only [Bool.true_and]
    rw [Bool.eq_iff_iff, order_iff, Bool.and_eq_true, beq_iff_eq, allR_iff]
    have hul : (undG g).length = g.sites.length := by simp [undG]
    constructor
    · intro h
      refine ⟨fun r hr => ?_, by have := h.1; rw [hul] at this; exact this⟩
      have hm := h.2 (r : Int) (by omega) (by omega)
      obtain ⟨i, hi, e⟩ := List.getElem_of_mem hm
      have hi2 : i < g.sites.length := by rw [← hul]; exact hi
      have e1 : (undG g).getD i 0 = (r : Int) := getD_some (by rw [List.getElem?_eq_getElem hi, e])
      have e3 := und_at hi2
      have : (holesG g (-1 - (r : Int))).length = 1 := by
        unfold holesG
        rw [List.length_map]
        refine one_filter hi2 ?_ fun j hj hp => ?_
        · rw [beq_iff_eq]; omega
        · rw [beq_iff_eq] at hp
          have e4 := und_at hj
          exact ord_inj h (by rw [hul]; exact hj) hi (by omega)
      rw [this]; rfl
    · rintro ⟨h1, h2⟩
      refine ⟨by rw [hul]; exact h2, fun x h3 h4 => ?_⟩
      have h5 := h1 x.toNat (by omega)
      rw [beq_iff_eq] at h5
      have h6 : 0 < (holesG g (-1 - ((x.toNat : Nat) : Int))).length := by omega
      obtain ⟨y, hy⟩ := List.exists_mem_of_length_pos h6
      unfold holesG at hy
      obtain ⟨i, hi, _⟩ := List.mem_map.1 hy
      obtain ⟨a1, a2⟩ := List.mem_filter.1 hi
      rw [beq_iff_eq] at a2
      have hi2 := List.mem_range.1 a1
      have e3 := und_at hi2
      have : (undG g).getD i 0 = x := by omega
      rw [← this]
      exact List.mem_of_getElem? (getD_lt (by rw [hul]; exact hi2))

end Go.Proofs.YtijkdpdmclkmlaaGreatDoor
