/- Plain: atoms, ions, substitutions, names, closures, identities, mergings: they are valid. Plain: lists that have each number once; permutations and swaps. -/
import Derived.Test.YtijkdpdmclkmlaaGreatDoorProg
import Derived.Test.YtijkdpdmclkmlaaGreatDoorJ8
set_option linter.unusedSimpArgs false
set_option linter.unusedVariables false
set_option maxRecDepth 100000
set_option maxHeartbeats 16000000
namespace Go.Proofs.YtijkdpdmclkmlaaGreatDoor
open Go.RowKit
def barG (n : Int) : Gr := ⟨n, [], [], 0, [], []⟩
theorem atS_lt : ∀ {l : List ByteArray} {s : ByteArray}, s ∈ l → atS l s < l.length
  | [], _, h => by simp at h
  | x :: l, s, h => by
    unfold atS
    split
    · simp
    rename_i hne
    have h2 : s ∈ l := by
      rcases List.mem_cons.1 h with h | h
      · exact absurd h.symm hne
      exact h
    have := atS_lt h2
    split
    · simp; omega
    simp; omega
section
variable {sig : List Ct} {names outs from_ tos : List ByteArray} {c : Int}
theorem id_good {n : Nat} (hs : sigB sig = true) (ho : namesB names = true) (h4 : n ≤ 4) : GoodP sig (idG n names) :=
  { sg := hs, r := ⟨by show (0 : Int) ≤ (n : Int); omega, by show (n : Int) ≤ 4; omega⟩, n8 := Nat.zero_le _, s4 := by simpa [idG] using h4, e := ⟨Int.le_refl _, by show (0 : Int) ≤ 8; decide⟩, on := ho, inn := by rw [idG_inner]; exact ho
    nod := fun i x hx => by simp [idG] at hx
    sit := fun p hp => by
      obtain ⟨i, hi, rfl⟩ := List.mem_map.1 hp
      have hi2 := List.mem_range.1 hi
      exact ⟨fun _ => by show -(n : Int) ≤ -1 - (i : Int); omega, fun h => by omega⟩
    inr := fun x hx => by
      obtain ⟨i, hi, rfl⟩ := List.mem_map.1 hx
      have hi2 := List.mem_range.1 hi
      exact ⟨by show (0 : Int) ≤ (i : Int); omega, by show (i : Int) < (0 : Int) + (names.length : Int); omega⟩ }
/-- All sites under one root; roots alone. -/
def mergeG (n : Nat) : Gr := ⟨1, [], List.replicate n (-1), 0, [], []⟩
theorem merge_good {n : Nat} (hs : sigB sig = true) (hn : namesB [] = true) (h4 : n ≤ 4) : GoodP sig (mergeG n) :=
  { sg := hs, r := ⟨by show (0 : Int) ≤ 1; decide, by show (1 : Int) ≤ 4; decide⟩, n8 := Nat.zero_le _, s4 := by simpa [mergeG] using h4, e := ⟨Int.le_refl _, by show (0 : Int) ≤ 8; decide⟩, on := hn, inn := hn
    nod := fun i x hx => by simp [mergeG] at hx
    sit := fun p hp => by
      have : p = -1 := by simp [mergeG] at hp; exact hp.2
      subst this
      exact ⟨fun _ => by show -(1 : Int) ≤ -1; decide, fun h => by exact absurd h (by decide)⟩
    inr := fun x hx => by simp [mergeG] at hx }
theorem bar_good {n : Int} (hs : sigB sig = true) (hn : namesB [] = true) (h0 : 0 ≤ n) (h4 : n ≤ 4) : GoodP sig (barG n) :=
  { sg := hs, r := ⟨h0, h4⟩, n8 := Nat.zero_le _, s4 := Nat.zero_le _, e := ⟨Int.le_refl _, by show (0 : Int) ≤ 8; decide⟩, on := hn, inn := hn
    nod := fun i x hx => by simp [barG] at hx, sit := fun p hp => by simp [barG] at hp, inr := fun x hx => by simp [barG] at hx }
end

/-- A list that has each number below its length: by sorting, and by looking for each. -/
def upto (k : Int) (n : Nat) : List Int := (List.range n).map fun i : Nat => k + (i : Int)
theorem upto_cons (k : Int) (n : Nat) : upto k (n + 1) = k :: upto (k + 1) n := by
  unfold upto
  rw [List.range_succ_eq_map, List.map_cons, List.map_map]
  congr 1
  · simp
  refine List.map_congr_left fun i _ => ?_
  simp only [Function.comp]
  omega
theorem mem_upto {k x : Int} {n : Nat} : x ∈ upto k n ↔ k ≤ x ∧ x < k + n := by
  unfold upto
  rw [List.mem_map]
  constructor
  · rintro ⟨i, hi, rfl⟩
    have := List.mem_range.1 hi
    omega
  intro h
  exact ⟨(x - k).toNat, List.mem_range.2 (by omega), by omega⟩
theorem sorted_upto : ∀ (n : Nat) (s : List Int) (k : Int), s.length = n → s.Pairwise (· ≤ ·) → (∀ x, k ≤ x → x < k + n → x ∈ s) → s = upto k n
  | 0, s, k, hl, _, _ => by rw [List.length_eq_zero_iff.1 hl]; rfl
  | n + 1, [], k, hl, _, _ => by simp at hl
  | n + 1, x :: t, k, hl, hs, hm => by
    have hl2 : t.length = n := by simpa using hl
    have hs2 := (List.pairwise_cons.1 hs).2
    have hx := (List.pairwise_cons.1 hs).1
    by_cases he : x = k
    · subst he
      rw [upto_cons, sorted_upto n t (x + 1) hl2 hs2 fun y h1 h2 => ?_]
      have h3 := hm y (by omega) (by omega)
      rcases List.mem_cons.1 h3 with h | h
      · omega
      exact h
    exfalso
    have hk := hm k (by omega) (by omega)
    have hkt : k ∈ t := by
      rcases List.mem_cons.1 hk with h | h
      · exact absurd h.symm he
      exact h
    have hxk := hx k hkt
    have ht : ∀ y, k ≤ y → y < k + (n + 1 : Nat) → y ∈ t := fun y h1 h2 => by
      rcases List.mem_cons.1 (hm y h1 h2) with h | h
      · omega
      exact h
    have e := sorted_upto n t k hl2 hs2 fun y h1 h2 => ht y h1 (by omega)
    have h4 := ht (k + n) (by omega) (by omega)
    rw [e, mem_upto] at h4
    omega
def sortI (l : List Int) : List Int := l.mergeSort fun x y => decide (x ≤ y)
theorem sortI_pair (l : List Int) : (sortI l).Pairwise (· ≤ ·) := by
  have := List.pairwise_mergeSort (le := fun x y : Int => decide (x ≤ y)) (fun a b c h1 h2 => by simp at *; omega) (fun a b => by simp; omega) l
  exact this.imp (by simp)
theorem sortI_mem {l : List Int} {x : Int} : x ∈ sortI l ↔ x ∈ l := (List.mergeSort_perm l _).mem_iff
theorem sortI_len (l : List Int) : (sortI l).length = l.length := List.length_mergeSort _
def orderB (n : Int) (l : List Int) : Bool := allR (sortI l).length (fun i => (sortI l).getD i 0 == (i : Int)) && ((l.length : Int) == n)
def eachB (l : List Int) (n : Int) : Bool := allR n.toNat (fun i => l.contains (i : Int)) && ((l.length : Int) == n)
/-- A list that has each number below n once. -/
def OrdP (n : Int) (l : List Int) : Prop := (l.length : Int) = n ∧ ∀ x : Int, 0 ≤ x → x < n → x ∈ l
theorem order_iff (n : Int) (l : List Int) : orderB n l = true ↔ OrdP n l := by
  unfold orderB OrdP
  rw [Bool.and_eq_true, beq_iff_eq, allR_iff]
  constructor
  · rintro ⟨h1, h2⟩
    refine ⟨h2, fun x h3 h4 => ?_⟩
    rw [← sortI_mem]
    have hx : x.toNat < (sortI l).length := by rw [sortI_len]; omega
    have := h1 _ hx
    rw [beq_iff_eq] at this
    have h5 : (sortI l)[x.toNat]? = some x := by rw [getD_lt (d := 0) hx, this]; congr 1; omega
    exact List.mem_of_getElem? h5
  rintro ⟨h2, h1⟩
  refine ⟨fun j hj => ?_, h2⟩
  have e := sorted_upto l.length (sortI l) 0 (sortI_len l) (sortI_pair l) fun x h3 h4 => sortI_mem.2 (h1 x h3 (by omega))
  rw [sortI_len] at hj
  rw [beq_iff_eq, e]
  unfold upto
  rw [getD_some (x := (0 : Int) + (j : Int)) (by rw [List.getElem?_map, List.getElem?_range hj]; rfl)]
  omega
theorem each_iff (n : Int) (l : List Int) : eachB l n = true ↔ OrdP n l := by
  unfold eachB OrdP
  rw [Bool.and_eq_true, beq_iff_eq, allR_iff]
  constructor
  · rintro ⟨h1, h2⟩
    refine ⟨h2, fun x h3 h4 => ?_⟩
    have := h1 x.toNat (by omega)
    rw [List.contains_iff_mem] at this
    rwa [show ((x.toNat : Nat) : Int) = x by omega] at this
  rintro ⟨h2, h1⟩
  refine ⟨fun j hj => ?_, h2⟩
  rw [List.contains_iff_mem]
  exact h1 _ (by omega) (by omega)
theorem order_each (n : Int) (l : List Int) : orderB n l = eachB l n := by
  rw [Bool.eq_iff_iff, order_iff, each_iff]
theorem ord_lt {n : Int} {l : List Int} (h : OrdP n l) {x : Int} (hx : x ∈ l) : 0 ≤ x ∧ x < n := by
  have hs := sorted_upto l.length (sortI l) 0 (sortI_len l) (sortI_pair l) fun y h3 h4 => sortI_mem.2 (h.2 y h3 (by have := h.1; omega))
  have := sortI_mem.2 hx
  rw [hs, mem_upto] at this
  have := h.1
  omega
/-- Permutations, and swaps. -/
def permG (t : List Int) : Gr := ⟨t.length, [], t.map fun r => -1 - r, 0, [], []⟩
section
variable {sig : List Ct} {t u : List Int}
theorem perm_good (hs : sigB sig = true) (hn : namesB [] = true) (h : OrdP t.length t) (h4 : t.length ≤ 4) : GoodP sig (permG t) :=
  { sg := hs, r := ⟨by show (0 : Int) ≤ (t.length : Int); omega, by show (t.length : Int) ≤ 4; omega⟩, n8 := Nat.zero_le _, s4 := by simpa [permG] using h4, e := ⟨Int.le_refl _, by show (0 : Int) ≤ 8; decide⟩, on := hn, inn := hn
    nod := fun i x hx => by simp [permG] at hx
    sit := fun p hp => by
      obtain ⟨r, hr, rfl⟩ := List.mem_map.1 hp
      have := ord_lt h hr
      exact ⟨fun _ => by show -(t.length : Int) ≤ -1 - r; omega, fun h0 => by omega⟩
    inr := fun x hx => by simp [permG] at hx }
theorem perm_fits (hl : u.length = t.length) : FitsP (permG t) (permG u) := ⟨by show ((t.map fun r => -1 - r).length : Int) = (u.length : Int); rw [List.length_map, hl], rfl⟩
theorem perm_comp (hl : u.length = t.length) (h : ∀ r ∈ u, 0 ≤ r ∧ r < t.length) : compG (permG t) (permG u) = permG (u.map (atI t)) := by
  refine gr_ext _ _ ?_ rfl ?_ rfl rfl rfl
  · show (t.length : Int) = ((u.map (atI t)).length : Int)
    rw [List.length_map, hl]
  show (u.map fun r => -1 - r).map (dnP (permG t)) = (u.map (atI t)).map fun r => -1 - r
  rw [List.map_map, List.map_map]
  refine List.map_congr_left fun r hr => ?_
  obtain ⟨h0, h1⟩ := h r hr
  simp only [Function.comp]
  unfold dnP
  rw [if_pos (by omega)]
  have e : (permG t).sites[(-1 - (-1 - r)).toNat]? = some (-1 - atI t r) := by
    show (t.map fun r => -1 - r)[(-1 - (-1 - r)).toNat]? = _
    rw [List.getElem?_map, show (-1 - (-1 - r)).toNat = r.toNat by omega, getD_lt (d := 0) (show r.toNat < t.length by omega)]
    rfl
  exact getD_some e
theorem perm_id (n : Nat) : permG (upto 0 n) = idG n [] := by
  refine gr_ext _ _ ?_ rfl ?_ rfl rfl rfl
  · show ((upto 0 n).length : Int) = (n : Int)
    simp [upto]
  show (upto 0 n).map _ = (List.range n).map _
  unfold upto
  rw [List.map_map]
  refine List.map_congr_left fun i _ => ?_
  simp only [Function.comp]
  omega
end
def swapL (m n : Nat) : List Int := (List.range (m + n)).map fun i : Nat => if i < m then (n : Int) + (i : Int) else (i : Int) - (m : Int)
theorem swapL_len (m n : Nat) : (swapL m n).length = m + n := by simp [swapL]
theorem swapL_at {m n i : Nat} (h : i < m + n) : atI (swapL m n) (i : Int) = if i < m then (n : Int) + (i : Int) else (i : Int) - (m : Int) := by
  unfold atI
  exact getD_some (by unfold swapL; rw [List.getElem?_map, show ((i : Int)).toNat = i by omega, List.getElem?_range h]; rfl)
theorem swapL_mem {m n : Nat} {x : Int} (h : x ∈ swapL m n) : 0 ≤ x ∧ x < (m + n : Nat) := by
  unfold swapL at h
  obtain ⟨i, hi, rfl⟩ := List.mem_map.1 h
  have := List.mem_range.1 hi
  split <;> omega
theorem swap_ord (m n : Nat) : OrdP (m + n : Nat) (swapL m n) := by
  refine ⟨by rw [swapL_len], fun x h0 h1 => ?_⟩
  unfold swapL
  rw [List.mem_map]
  by_cases h : x < n
  · exact ⟨m + x.toNat, List.mem_range.2 (by omega), by rw [if_neg (by omega)]; omega⟩
  exact ⟨(x - n).toNat, List.mem_range.2 (by omega), by rw [if_pos (by omega)]; omega⟩
theorem swap_swap (m k : Nat) : (swapL m k).map (atI (swapL k m)) = upto 0 (m + k) := by
  unfold swapL
  rw [List.map_map]
  unfold upto
  refine List.map_congr_left fun i hi => ?_
  have hi' := List.mem_range.1 hi
  simp only [Function.comp]
  by_cases h : i < m
  · rw [if_pos h]
    have := swapL_at (m := k) (n := m) (i := k + i) (by omega)
    unfold swapL at this
    rw [show ((k : Int) + (i : Int)) = ((k + i : Nat) : Int) by omega, this, if_neg (by omega)]
    omega
  rw [if_neg h]
  have := swapL_at (m := k) (n := m) (i := i - m) (by omega)
  unfold swapL at this
  rw [show ((i : Int) - (m : Int)) = ((i - m : Nat) : Int) by omega, this, if_pos (by omega)]
  omega
/-- A swap behind the swap the other way round is an identity. -/
theorem swap_back (m k : Nat) : compG (permG (swapL k m)) (permG (swapL m k)) = idG (m + k) [] := by
  rw [perm_comp (by rw [swapL_len, swapL_len]; omega) (fun r hr => by have := swapL_mem hr; rw [swapL_len]; omega), swap_swap, perm_id]
def placB (g : Gr) : Bool := decide (g.nodes.length = 0) && decide (g.edges = 0) && decide (g.outer.length = 0) && decide (g.inner.length = 0)
def undG (g : Gr) : List Int := g.sites.map fun p => -1 - p
def permB (g : Gr) : Bool := placB g && orderB g.roots (undG g)
theorem und_at {g : Gr} {i : Nat} (hi : i < g.sites.length) : (undG g).getD i 0 = -1 - g.sites.getD i 0 := getD_some (by unfold undG; rw [List.getElem?_map, getD_lt (d := 0) hi]; rfl)

end Go.Proofs.YtijkdpdmclkmlaaGreatDoor
