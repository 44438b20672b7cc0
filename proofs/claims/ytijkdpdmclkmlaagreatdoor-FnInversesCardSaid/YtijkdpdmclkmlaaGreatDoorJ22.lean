/- Plain: atoms, ions, substitutions, names, closures, identities, mergings: they are valid. Plain: lists that have each number once; permutations and swaps. Bigraphs that are built: what a builder gives back, and its end. -/
import Derived.Test.YtijkdpdmclkmlaaGreatDoorProg
import Derived.Test.YtijkdpdmclkmlaaGreatDoorJ7
import Derived.Test.YtijkdpdmclkmlaaGreatDoorJ21
set_option linter.unusedSimpArgs false
set_option linter.unusedVariables false
set_option maxRecDepth 100000
set_option maxHeartbeats 16000000
namespace Go.Proofs.YtijkdpdmclkmlaaGreatDoor
open Go.RowKit
/-- Atoms, ions, substitutions, new names, closures. -/
def atomG (c : Int) (names outs : List ByteArray) : Gr := ⟨1, [(c, -1, names.map (atS outs))], [], 0, outs, []⟩
def ionG (c : Int) (names outs : List ByteArray) : Gr := ⟨1, [(c, -1, names.map (atS outs))], [0], 0, outs, []⟩
def subG (from_ tos outs : List ByteArray) : Gr := ⟨0, [], [], 0, outs, (List.range from_.length).map fun i : Nat => (from_.getD i default, atS outs (tos.getD i default))⟩
theorem atS_lt : ∀ {l : List ByteArray} {s : ByteArray}, s ∈ l → atS l s < l.length
  | [], _, h => by simp at h
  | x :: l, s, h => by
    unfold atS
    split
    · simp
    rename_i hne
    have h2 : s ∈ l := by
      rcases List.mem_cons.1 h with h | h
      · exact absurd h.symm hne
      exact h
    have := atS_lt h2
    split
    · simp; omega
    simp; omega
section
variable {sig : List Ct} {names outs from_ tos : List ByteArray} {c : Int}
theorem id_good {n : Nat} (hs : sigB sig = true) (ho : namesB names = true) (h4 : n ≤ 4) : GoodP sig (idG n names) :=
  { sg := hs, r := ⟨by show (0 : Int) ≤ (n : Int); omega, by show (n : Int) ≤ 4; omega⟩, n8 := Nat.zero_le _, s4 := by simpa [idG] using h4, e := ⟨Int.le_refl _, by show (0 : Int) ≤ 8; decide⟩, on := ho, inn := by rw [idG_inner]; exact ho
    nod := fun i x hx => by simp [idG] at hx
    sit := fun p hp => by
      obtain ⟨i, hi, rfl⟩ := List.mem_map.1 hp
      have hi2 := List.mem_range.1 hi
      exact ⟨fun _ => by show -(n : Int) ≤ -1 - (i : Int); omega, fun h => by omega⟩
    inr := fun x hx => by
      obtain ⟨i, hi, rfl⟩ := List.mem_map.1 hx
      have hi2 := List.mem_range.1 hi
      exact ⟨by show (0 : Int) ≤ (i : Int); omega, by show (i : Int) < (0 : Int) + (names.length : Int); omega⟩ }
/-- All sites under one root; roots alone. -/
def mergeG (n : Nat) : Gr := ⟨1, [], List.replicate n (-1), 0, [], []⟩
end

/-- A list that has each number below its length: by sorting, and by looking for each. -/
def upto (k : Int) (n : Nat) : List Int := (List.range n).map fun i : Nat => k + (i : Int)
theorem upto_cons (k : Int) (n : Nat) : upto k (n + 1) = k :: upto (k + 1) n := by
  unfold upto
  rw [List.range_succ_eq_map, List.map_cons, List.map_map]
  congr 1
  · simp
  refine List.map_congr_left fun i _ => ?_
  simp only [Function.comp]
  omega
theorem mem_upto {k x : Int} {n : Nat} : x ∈ upto k n ↔ k ≤ x ∧ x < k + n := by
  unfold upto
  rw [List.mem_map]
  constructor
  · rintro ⟨i, hi, rfl⟩
    have := List.mem_range.1 hi
    omega
  intro h
  exact ⟨(x - k).toNat, List.mem_range.2 (by omega), by omega⟩
theorem sorted_upto : ∀ (n : Nat) (s : List Int) (k : Int), s.length = n → s.Pairwise (· ≤ ·) → (∀ x, k ≤ x → x < k + n → x ∈ s) → s = upto k n
  | 0, s, k, hl, _, _ => by rw [List.length_eq_zero_iff.1 hl]; rfl
  | n + 1, [], k, hl, _, _ => by simp at hl
  | n + 1, x :: t, k, hl, hs, hm => by
    have hl2 : t.length = n := by simpa using hl
    have hs2 := (List.pairwise_cons.1 hs).2
    have hx := (List.pairwise_cons.1 hs).1
    by_cases he : x = k
    · subst he
      rw [upto_cons, sorted_upto n t (x + 1) hl2 hs2 fun y h1 h2 => ?_]
      have h3 := hm y (by omega) (by omega)
      rcases List.mem_cons.1 h3 with h | h
      · omega
      exact h
    exfalso
    have hk := hm k (by omega) (by omega)
    have hkt : k ∈ t := by
      rcases List.mem_cons.1 hk with h | h
      · exact absurd h.symm he
      exact h
    have hxk := hx k hkt
    have ht : ∀ y, k ≤ y → y < k + (n + 1 : Nat) → y ∈ t := fun y h1 h2 => by
      rcases List.mem_cons.1 (hm y h1 h2) with h | h
      · omega
      exact h
    have e := sorted_upto n t k hl2 hs2 fun y h1 h2 => ht y h1 (by omega)
    have h4 := ht (k + n) (by omega) (by omega)
    rw [e, mem_upto] at h4
    omega
def sortI (l : List Int) : List Int := l.mergeSort fun x y => decide (x ≤ y)
theorem sortI_pair (l : List Int) : (sortI l).Pairwise (· ≤ ·) := by
  have := List.pairwise_mergeSort (le := fun x y : Int => decide (x ≤ y)) (fun a b c h1 h2 => by simp at *; omega) (fun a b => by simp; omega) l
  exact this.imp (by simp)
theorem sortI_mem {l : List Int} {x : Int} : x ∈ sortI l ↔ x ∈ l := (List.mergeSort_perm l _).mem_iff
theorem sortI_len (l : List Int) : (sortI l).length = l.length := List.length_mergeSort _
def orderB (n : Int) (l : List Int) : Bool := allR (sortI l).length (fun i => (sortI l).getD i 0 == (i : Int)) && ((l.length : Int) == n)
/-- A list that has each number below n once. -/
def OrdP (n : Int) (l : List Int) : Prop := (l.length : Int) = n ∧ ∀ x : Int, 0 ≤ x → x < n → x ∈ l
theorem order_iff (n : Int) (l : List Int) : orderB n l = true ↔ OrdP n l := by
  unfold orderB OrdP
  rw [Bool.and_eq_true, beq_iff_eq, allR_iff]
  constructor
  · rintro ⟨h1, h2⟩
    refine ⟨h2, fun x h3 h4 => ?_⟩
    rw [← sortI_mem]
    have hx : x.toNat < (sortI l).length := by rw [sortI_len]; omega
    have := h1 _ hx
    rw [beq_iff_eq] at this
    have h5 : (sortI l)[x.toNat]? = some x := by rw [getD_lt (d := 0) hx, this]; congr 1; omega
    exact List.mem_of_getElem? h5
  rintro ⟨h2, h1⟩
  refine ⟨fun j hj => ?_, h2⟩
  have e := sorted_upto l.length (sortI l) 0 (sortI_len l) (sortI_pair l) fun x h3 h4 => sortI_mem.2 (h1 x h3 (by omega))
  rw [sortI_len] at hj
  rw [beq_iff_eq, e]
  unfold upto
  rw [getD_some (x := (0 : Int) + (j : Int)) (by rw [List.getElem?_map, List.getElem?_range hj]; rfl)]
  omega
/-- Each number below n stands in the list once. -/
theorem ord_inj {n : Int} {l : List Int} (h : OrdP n l) {i j : Nat} (hi : i < l.length) (hj : j < l.length) (e : l.getD i 0 = l.getD j 0) : i = j := by
  have hs := sorted_upto l.length (sortI l) 0 (sortI_len l) (sortI_pair l) fun x h3 h4 => sortI_mem.2 (h.2 x h3 (by have := h.1; omega))
  have hnd : (sortI l).Nodup := by
    rw [hs]
    unfold upto
    exact List.Pairwise.map (fun i : Nat => (0 : Int) + (i : Int)) (fun a b hab e => hab (by omega)) List.nodup_range
  have hnl : l.Nodup := ((List.mergeSort_perm l fun x y : Int => decide (x ≤ y)).nodup_iff).1 hnd
  have e1 := getD_lt (d := 0) hi
  have e2 := getD_lt (d := 0) hj
  rw [e] at e1
  exact (List.getElem?_inj hi hnl).1 (e1.trans e2.symm)
theorem ord_lt {n : Int} {l : List Int} (h : OrdP n l) {x : Int} (hx : x ∈ l) : 0 ≤ x ∧ x < n := by
  have hs := sorted_upto l.length (sortI l) 0 (sortI_len l) (sortI_pair l) fun y h3 h4 => sortI_mem.2 (h.2 y h3 (by have := h.1; omega))
  have := sortI_mem.2 hx
  rw [hs, mem_upto] at this
  have := h.1
  omega
/-- Permutations, and swaps. -/
def permG (t : List Int) : Gr := ⟨t.length, [], t.map fun r => -1 - r, 0, [], []⟩
section
variable {sig : List Ct} {t u : List Int}
theorem perm_good (hs : sigB sig = true) (hn : namesB [] = true) (h : OrdP t.length t) (h4 : t.length ≤ 4) : GoodP sig (permG t) :=
  { sg := hs, r := ⟨by show (0 : Int) ≤ (t.length : Int); omega, by show (t.length : Int) ≤ 4; omega⟩, n8 := Nat.zero_le _, s4 := by simpa [permG] using h4, e := ⟨Int.le_refl _, by show (0 : Int) ≤ 8; decide⟩, on := hn, inn := hn
    nod := fun i x hx => by simp [permG] at hx
    sit := fun p hp => by
      obtain ⟨r, hr, rfl⟩ := List.mem_map.1 hp
      have := ord_lt h hr
      exact ⟨fun _ => by show -(t.length : Int) ≤ -1 - r; omega, fun h0 => by omega⟩
    inr := fun x hx => by simp [permG] at hx }
theorem perm_fits (hl : u.length = t.length) : FitsP (permG t) (permG u) := ⟨by show ((t.map fun r => -1 - r).length : Int) = (u.length : Int); rw [List.length_map, hl], rfl⟩
theorem perm_comp (hl : u.length = t.length) (h : ∀ r ∈ u, 0 ≤ r ∧ r < t.length) : compG (permG t) (permG u) = permG (u.map (atI t)) := by
  refine gr_ext _ _ ?_ rfl ?_ rfl rfl rfl
  · show (t.length : Int) = ((u.map (atI t)).length : Int)
    rw [List.length_map, hl]
  show (u.map fun r => -1 - r).map (dnP (permG t)) = (u.map (atI t)).map fun r => -1 - r
  rw [List.map_map, List.map_map]
  refine List.map_congr_left fun r hr => ?_
  obtain ⟨h0, h1⟩ := h r hr
  simp only [Function.comp]
  unfold dnP
  rw [if_pos (by omega)]
  have e : (permG t).sites[(-1 - (-1 - r)).toNat]? = some (-1 - atI t r) := by
    show (t.map fun r => -1 - r)[(-1 - (-1 - r)).toNat]? = _
    rw [List.getElem?_map, show (-1 - (-1 - r)).toNat = r.toNat by omega, getD_lt (d := 0) (show r.toNat < t.length by omega)]
    rfl
  exact getD_some e
theorem perm_id (n : Nat) : permG (upto 0 n) = idG n [] := by
  refine gr_ext _ _ ?_ rfl ?_ rfl rfl rfl
  · show ((upto 0 n).length : Int) = (n : Int)
    simp [upto]
  show (upto 0 n).map _ = (List.range n).map _
  unfold upto
  rw [List.map_map]
  refine List.map_congr_left fun i _ => ?_
  simp only [Function.comp]
  omega
end
/-- Permutations: by sorting, and by the holes of each root. -/
def holesG (g : Gr) (p : Int) : List Int := ((List.range g.sites.length).filter fun i => g.sites.getD i 0 == p).map fun i : Nat => (i : Int)
def placB (g : Gr) : Bool := decide (g.nodes.length = 0) && decide (g.edges = 0) && decide (g.outer.length = 0) && decide (g.inner.length = 0)
def undG (g : Gr) : List Int := g.sites.map fun p => -1 - p
def permB (g : Gr) : Bool := placB g && orderB g.roots (undG g)
def permuB (g : Gr) : Bool := allR g.roots.toNat (fun r => ((holesG g (-1 - (r : Int))).length : Int) == 1) && (placB g && ((g.sites.length : Int) == g.roots))
theorem one_filter {n : Nat} {p : Nat → Bool} {i : Nat} (hi : i < n) (hp : p i = true) (h : ∀ j, j < n → p j = true → j = i) : ((List.range n).filter p).length = 1 := by
  have e : (List.range n).filter p = [i] := by
    have hnd : ((List.range n).filter p).Nodup := List.nodup_range.filter p
    have hm : ∀ j, j ∈ (List.range n).filter p ↔ j = i := fun j => by
      rw [List.mem_filter, List.mem_range]
      exact ⟨fun ⟨a, b⟩ => h j a b, fun e => by subst e; exact ⟨hi, hp⟩⟩
    match hl : (List.range n).filter p with
    | [] => have := (hm i).2 rfl; rw [hl] at this; simp at this
    | [x] => have := (hm x).1 (by rw [hl]; simp); rw [this]
    | x :: y :: t =>
      have h1 := (hm x).1 (by rw [hl]; simp)
      have h2 := (hm y).1 (by rw [hl]; simp)
      rw [hl] at hnd
      exact absurd (h1.trans h2.symm) (by have := (List.nodup_cons.1 hnd).1; intro e; apply this; rw [e]; simp)
  rw [e]; rfl
theorem und_at {g : Gr} {i : Nat} (hi : i < g.sites.length) : (undG g).getD i 0 = -1 - g.sites.getD i 0 := getD_some (by unfold undG; rw [List.getElem?_map, getD_lt (d := 0) hi]; rfl)
theorem perm_same {sig : List Ct} {g : Gr} (hg : GoodP sig g) : permB g = permuB g := by
  unfold permB permuB
  cases hpl : placB g
  · simp
  simp only [Bool.true_and]
  rw [Bool.eq_iff_iff, order_iff, Bool.and_eq_true, beq_iff_eq, allR_iff]
  have hul : (undG g).length = g.sites.length := by simp [undG]
  constructor
  · intro h
    refine ⟨fun r hr => ?_, by have := h.1; rw [hul] at this; exact this⟩
    have hm := h.2 (r : Int) (by omega) (by omega)
    obtain ⟨i, hi, e⟩ := List.getElem_of_mem hm
    have hi2 : i < g.sites.length := by rw [← hul]; exact hi
    have e1 : (undG g).getD i 0 = (r : Int) := getD_some (by rw [List.getElem?_eq_getElem hi, e])
    have e3 := und_at hi2
    have : (holesG g (-1 - (r : Int))).length = 1 := by
      unfold holesG
      rw [List.length_map]
      refine one_filter hi2 ?_ fun j hj hp => ?_
      · rw [beq_iff_eq]; omega
      rw [beq_iff_eq] at hp
      have e4 := und_at hj
      exact ord_inj h (by rw [hul]; exact hj) hi (by omega)
    rw [this]; rfl
  rintro ⟨h1, h2⟩
  refine ⟨by rw [hul]; exact h2, fun x h3 h4 => ?_⟩
  have h5 := h1 x.toNat (by omega)
  rw [beq_iff_eq] at h5
  have h6 : 0 < (holesG g (-1 - ((x.toNat : Nat) : Int))).length := by omega
  obtain ⟨y, hy⟩ := List.exists_mem_of_length_pos h6
  unfold holesG at hy
  obtain ⟨i, hi, _⟩ := List.mem_map.1 hy
  obtain ⟨a1, a2⟩ := List.mem_filter.1 hi
  rw [beq_iff_eq] at a2
  have hi2 := List.mem_range.1 a1
  have e3 := und_at hi2
  have : (undG g).getD i 0 = x := by omega
  rw [← this]
  exact List.mem_of_getElem? (getD_lt (by rw [hul]; exact hi2))

/-- A bigraph in rows of its own, laid by the call. -/
structure RG (w w' : World) (X : BX) : Prop where
  ob : OB w' w.heap.size X
  bel : Below w.heap.size w w'
  cap : True
theorem RG.rgr {w w' W : World} {X : BX} (h : RG w w' X) (hb : Below w'.heap.size w' W) (hs : SmallG X.g) : RGr W X.nv X.sv X.ov X.iv X.g := (h.ob.below hb).rgr hs

theorem rcell2 {P : Program} {fn : Func} {p q : Tmp} {ty : TypeId} (h : fn.results = #[.cell p ty, .tmp q]) (tmps : Array Value) (w : World) (g : Nat) (t : TypeId) (cs : Array Value) (fr : Nat × Nat) (d : TypeDesc)
    (hp : tmps.getD p undef = .pointer (some ⟨g, 0, none⟩)) (hg : w.heap[g]? = some (.cells cs t fr))
    (hu : P.underlying ty = some d) (hd : (match d with | .struct _ | .array _ _ => true | _ => false) = true) (hi : (P.info? ty).map (·.size) = some cs.size) :
    (results fn tmps).run P w = .ok (.tuple #[.agg cs, tmps.getD q undef]) w := by
  have hp' : tmps[p]?.getD undef = .pointer (some ⟨g, 0, none⟩) := by simpa using hp
  simp [results, h, hp', asAddr, run_loadVar_row w g t ty cs fr d hg hu hd hi]

section
variable {w w0 W : World} {P : Nat} {bx : Array Value} {X : BX}
theorem fin6_of (h0 : Below w.heap.size w w0) (hR : w0.heap[w.heap.size]? = some (.cells ZB 31)) (hs : w.heap.size < W.heap.size) (hk : Kept (fun q => w.heap.size + 1 ≤ q) w0 W) (hob : OB W (w.heap.size + 1) X) :
    ((((((W.setCell ⟨w.heap.size, 0, none⟩ (.int .i64 X.r)).setCell ⟨w.heap.size, 1, none⟩ X.nv).setCell ⟨w.heap.size, 2, none⟩ X.sv).setCell ⟨w.heap.size, 3, none⟩ (.int .i64 X.e)).setCell ⟨w.heap.size, 4, none⟩ X.ov).setCell ⟨w.heap.size, 5, none⟩ X.iv).heap[w.heap.size]? = some (.cells X.cells 31) ∧
    RG w ((((((W.setCell ⟨w.heap.size, 0, none⟩ (.int .i64 X.r)).setCell ⟨w.heap.size, 1, none⟩ X.nv).setCell ⟨w.heap.size, 2, none⟩ X.sv).setCell ⟨w.heap.size, 3, none⟩ (.int .i64 X.e)).setCell ⟨w.heap.size, 4, none⟩ X.ov).setCell ⟨w.heap.size, 5, none⟩ X.iv) X := by
  have hl := (Array.getElem?_eq_some_iff.1 hR).1
  have hR2 := (hk.block w.heap.size hl (by omega)).trans hR
  have e0 := heap_setCell_same W w.heap.size 0 _ _ (.int .i64 X.r) hR2
  have e1 := heap_setCell_same _ w.heap.size 1 _ _ X.nv e0
  have e2 := heap_setCell_same _ w.heap.size 2 _ _ X.sv e1
  have e3 := heap_setCell_same _ w.heap.size 3 _ _ (.int .i64 X.e) e2
  have e4 := heap_setCell_same _ w.heap.size 4 _ _ X.ov e3
  have e5 := heap_setCell_same _ w.heap.size 5 _ _ X.iv e4
  have hKF := (((((((Kept.refl (fun q => q = w.heap.size) W).setCell (p := ⟨w.heap.size, 0, none⟩) rfl (.int .i64 X.r)).setCell (p := ⟨w.heap.size, 1, none⟩) rfl X.nv).setCell (p := ⟨w.heap.size, 2, none⟩) rfl X.sv).setCell (p := ⟨w.heap.size, 3, none⟩) rfl (.int .i64 X.e)).setCell (p := ⟨w.heap.size, 4, none⟩) rfl X.ov).setCell (p := ⟨w.heap.size, 5, none⟩) rfl X.iv)
  refine ⟨e5, (hob.kept hKF (fun q hq => by omega)).mono (by omega), ?_, trivial⟩
  have k4 := ((Kept.of_below h0 (fun q => w.heap.size ≤ q)).trans (hk.mono fun q hq => by omega)).trans (hKF.mono fun q hq => by omega)
  exact ⟨k4.os, k4.tape, k4.output, k4.size, fun q hq => k4.block q hq (by omega)⟩
/-- The bigraph of the box P is handed back by way of the result's box. -/
theorem fin6 (h0 : Below w.heap.size w w0) (hR : w0.heap[w.heap.size]? = some (.cells ZB 31)) (hP : w.heap.size < P) (h : GT w0 (w.heap.size + 1) P bx X W) :
    ((((((W.setCell ⟨w.heap.size, 0, none⟩ (.int .i64 X.r)).setCell ⟨w.heap.size, 1, none⟩ X.nv).setCell ⟨w.heap.size, 2, none⟩ X.sv).setCell ⟨w.heap.size, 3, none⟩ (.int .i64 X.e)).setCell ⟨w.heap.size, 4, none⟩ X.ov).setCell ⟨w.heap.size, 5, none⟩ X.iv).heap[w.heap.size]? = some (.cells X.cells 31) ∧
    RG w ((((((W.setCell ⟨w.heap.size, 0, none⟩ (.int .i64 X.r)).setCell ⟨w.heap.size, 1, none⟩ X.nv).setCell ⟨w.heap.size, 2, none⟩ X.sv).setCell ⟨w.heap.size, 3, none⟩ (.int .i64 X.e)).setCell ⟨w.heap.size, 4, none⟩ X.ov).setCell ⟨w.heap.size, 5, none⟩ X.iv) X :=
  fin6_of h0 hR (by have := (Array.getElem?_eq_some_iff.1 hR).1; have := h.k.size; omega) (h.k.mono fun q hq => by omega) h.ob
end

theorem gt_below {w w0 W : World} {P : Nat} {bx : Array Value} {X : BX} (h : GT w0 (w.heap.size + 1) P bx X W) (h0 : Below w.heap.size w w0) (hP : w.heap.size < P) : Below w.heap.size w W := by
  have k4 := (Kept.of_below h0 (fun q => w.heap.size ≤ q)).trans (h.k.mono fun q hq => by omega)
  exact ⟨k4.os, k4.tape, k4.output, k4.size, fun q hq => k4.block q hq (by omega)⟩
abbrev nilV : Value := .slice none 0 0
/-- Without nodes and edges. -/
def bI (r : Int) (ov : Value) (os : List ByteArray) (sv : Value) (ss : List Int) (iv : Value) (is : List Wi) : BX := ⟨r, 0, nilV, sv, ov, iv, [], [], ss, os, is⟩
theorem rm_succ {α : Type} (f : Nat → α) (k : Nat) : (List.range (k + 1)).map f = (List.range k).map f ++ [f k] := by rw [List.range_succ, List.map_append]; rfl
theorem map_getD {α β : Type} (d : α) (f : α → β) (l : List α) : l.map f = (List.range l.length).map fun i => f (l.getD i d) := by
  apply List.ext_getElem
  · simp
  intro i h1 h2
  simp only [List.getElem_map, List.getElem_range]
  rw [getD_some (List.getElem?_eq_getElem (by simpa using h1))]
theorem bI_S {w0 W : World} {B P : Nat} {bx : Array Value} {r : Int} {ov sv iv : Value} {os : List ByteArray} {is : List Wi} {f : Nat → Int} {k : Nat} (h : GT w0 B P bx (bI r ov os sv ((List.range k).map f) iv is) W) : W.ownsRow B 3 1 sv k (ints ((List.range k).map f)) := by
  have := h.ob.S
  rw [show (bI r ov os sv ((List.range k).map f) iv is).ss.length = k from by simp [bI]] at this
  exact this
theorem bI_I {w0 W : World} {B P : Nat} {bx : Array Value} {r : Int} {ov sv iv : Value} {os : List ByteArray} {ss : List Int} {f : Nat → Wi} {k : Nat} (h : GT w0 B P bx (bI r ov os sv ss iv ((List.range k).map f)) W) : W.ownsRow B 90 2 iv k (((List.range k).map f).flatMap encWi) := by
  have := h.ob.I
  rw [show (bI r ov os sv ss iv ((List.range k).map f)).is.length = k from by simp [bI]] at this
  exact this
theorem GT.addS {w0 W W' : World} {B P : Nat} {bx : Array Value} {r : Int} {ov sv iv v : Value} {os : List ByteArray} {is : List Wi} {f : Nat → Int} {k : Nat} (h : GT w0 B P bx (bI r ov os sv ((List.range k).map f) iv is) W) (ho : W'.ownsRow B 3 1 v (k + 1) (ints ((List.range k).map f) ++ [.int .i64 (f k)])) (hk : Kept (fun q => sv.ownBlock = some q) W W') (hm : Moved W sv v) : GT w0 B P bx (bI r ov os v ((List.range (k + 1)).map f) iv is) W' := by
  have := h.appS (x := f k) (v := v) (by rw [show (bI r ov os sv ((List.range k).map f) iv is).ss.length = k from by simp [bI]]; exact ho) hk hm
  rw [rm_succ]
  exact this
theorem GT.addI {w0 W W' : World} {B P : Nat} {bx : Array Value} {r : Int} {ov sv iv v : Value} {os : List ByteArray} {ss : List Int} {f : Nat → Wi} {k : Nat} (h : GT w0 B P bx (bI r ov os sv ss iv ((List.range k).map f)) W) (ho : W'.ownsRow B 90 2 v (k + 1) (((List.range k).map f).flatMap encWi ++ [.string (f k).1, .int .i64 (f k).2])) (hk : Kept (fun q => iv.ownBlock = some q) W W') : GT w0 B P bx (bI r ov os sv ss v ((List.range (k + 1)).map f)) W' := by
  have := h.appI (x := f k) (v := v) (by rw [show (bI r ov os sv ss iv ((List.range k).map f)).is.length = k from by simp [bI]]; exact ho) hk
  rw [rm_succ]
  exact this
theorem el_wireG : El Tryz.prog 29 90 2 24 := El.mk' Tryz.underlying29 (by kernel_rfl : _ = some (some (.agg #[.string ⟨#[]⟩, .int .i64 0]), 2, 24)) rfl (by decide)
theorem wi_one (s : ByteArray) (l : Int) : ∀ u ∈ ([.string s, .int .i64 l] : List Value), u.oneCell' = true := by
  intro u hu
  simp at hu
  rcases hu with rfl | rfl <;> rfl

/-- The same where the result's box is another one. -/
theorem fin6R {w w0 W : World} {X : BX} (R : Nat) (h0 : Below w.heap.size w w0) (hw : w.heap.size ≤ R) (hR : w0.heap[R]? = some (.cells ZB 31)) (hk : Kept (fun q => R + 1 ≤ q) w0 W) (hob : OB W (R + 1) X) :
    ((((((W.setCell ⟨R, 0, none⟩ (.int .i64 X.r)).setCell ⟨R, 1, none⟩ X.nv).setCell ⟨R, 2, none⟩ X.sv).setCell ⟨R, 3, none⟩ (.int .i64 X.e)).setCell ⟨R, 4, none⟩ X.ov).setCell ⟨R, 5, none⟩ X.iv).heap[R]? = some (.cells X.cells 31) ∧
    RG w ((((((W.setCell ⟨R, 0, none⟩ (.int .i64 X.r)).setCell ⟨R, 1, none⟩ X.nv).setCell ⟨R, 2, none⟩ X.sv).setCell ⟨R, 3, none⟩ (.int .i64 X.e)).setCell ⟨R, 4, none⟩ X.ov).setCell ⟨R, 5, none⟩ X.iv) X := by
  have hl := (Array.getElem?_eq_some_iff.1 hR).1
  have hR2 := (hk.block R hl (by omega)).trans hR
  have e0 := heap_setCell_same W R 0 _ _ (.int .i64 X.r) hR2
  have e1 := heap_setCell_same _ R 1 _ _ X.nv e0
  have e2 := heap_setCell_same _ R 2 _ _ X.sv e1
  have e3 := heap_setCell_same _ R 3 _ _ (.int .i64 X.e) e2
  have e4 := heap_setCell_same _ R 4 _ _ X.ov e3
  have e5 := heap_setCell_same _ R 5 _ _ X.iv e4
  have hKF := (((((((Kept.refl (fun q => q = R) W).setCell (p := ⟨R, 0, none⟩) rfl (.int .i64 X.r)).setCell (p := ⟨R, 1, none⟩) rfl X.nv).setCell (p := ⟨R, 2, none⟩) rfl X.sv).setCell (p := ⟨R, 3, none⟩) rfl (.int .i64 X.e)).setCell (p := ⟨R, 4, none⟩) rfl X.ov).setCell (p := ⟨R, 5, none⟩) rfl X.iv)
  refine ⟨e5, (hob.kept hKF (fun q hq => by omega)).mono (by omega), ?_, trivial⟩
  have k4 := ((Kept.of_below h0 (fun q => w.heap.size ≤ q)).trans (hk.mono fun q hq => by omega)).trans (hKF.mono fun q hq => by omega)
  exact ⟨k4.os, k4.tape, k4.output, k4.size, fun q hq => k4.block q hq (by omega)⟩
theorem ion_of {X : BX} {c : Int} {n o : List ByteArray} {v : Value} (h : X.g = atomG c n o) : BX.g { X with sv := v, ss := [0] } = ionG c n o := by
  unfold BX.g atomG at h
  injection h with h1 h2 h3 h4 h5 h6
  unfold BX.g ionG
  simp only [h1, h2, h4, h5, h6]
def zeroG : Gr := ⟨0, [], [], 0, [], []⟩
def zeroX : BX := ⟨0, 0, nilV, nilV, nilV, nilV, [], [], [], [], []⟩
theorem zero_ob (W : World) (B : Nat) : OB W B zeroX := ob_none W B 0 0
/-- The sites' row is a new literal list. -/
theorem GT.newS {w0 W : World} {B P : Nat} {bx : Array Value} {X : BX} (h : GT w0 B P bx X W) (l : List Int) (hl : l.length ≤ 1000000) (hB : B ≤ W.heap.size) : GT w0 B P bx { X with sv := .slice (some ⟨W.heap.size, 0, none⟩) l.length l.length, ss := l } (W.alloc (.cells (ints l).toArray 3)) := by
  have hb := (Below.refl W.heap.size W).alloc (Nat.le_refl _) (.cells (ints l).toArray 3)
  have h2 := h.lay hb
  refine { h2 with ob := { N := { h2.ob.N with sep := fun i l' b hl' hb' e => ?_ }, S := ?_, O := h2.ob.O, I := h2.ob.I } }
  · obtain ⟨y, _, hy⟩ := h.ob.N.lkown hl'
    have := (hy.lt b hb').2
    simp [Value.ownBlock] at e
    omega
  exact owns_mono (ownsNew W (ints l) 3 1 l.length (by simp [ints]) (by unfold maxLen; omega)) hB
/-- A bigraph that a call has built lies in a new box. -/
theorem gt_of_rg {w w1 wN : World} {B : Nat} {X : BX} (hr : RG w w1 X) (hB : B ≤ w.heap.size) (hw : wN = w1.alloc (.cells X.cells 31)) : GT wN B w1.heap.size X.cells X wN := by
  have hb : Below w1.heap.size w1 wN := by rw [hw]; exact (Below.refl _ _).alloc (Nat.le_refl _) _
  exact { k := Kept.refl _ _, box := by rw [hw]; exact heap_alloc_new _ _, ob := (hr.ob.below hb).mono hB }

end Go.Proofs.YtijkdpdmclkmlaaGreatDoor
