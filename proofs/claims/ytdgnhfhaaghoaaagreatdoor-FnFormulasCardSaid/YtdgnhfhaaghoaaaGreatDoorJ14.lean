/- Labelled systems: what a round tells of a state, as the program's and as the reference's list. Plain law: both tell apart the same states. Triples in order, each once. Triples sorted: slices.SortFunc by compareSteps, sortedSteps walked. -/
import Derived.Test.YtdgnhfhaaghoaaaGreatDoorJ13
import Derived.Test.YtdgnhfhaaghoaaaGreatDoorJ2
import Derived.Test.YtdgnhfhaaghoaaaGreatDoorProg
import Derived.Test.YtdgnhfhaaghoaaaGreatDoorJ6
import Derived.Test.YtdgnhfhaaghoaaaGreatDoorJ9
import Derived.Test.YtdgnhfhaaghoaaaGreatDoorJ10
import Derived.Sort.OwnSorted
set_option linter.unusedSimpArgs false
set_option linter.unusedVariables false
namespace Go.Proofs.YtdgnhfhaaghoaaaGreatDoor

theorem sorted_eqR {α : Type} {R : α → α → Prop} (asym : ∀ a b, R a b → ¬ R b a) : ∀ {a b : List α}, a.Pairwise R → b.Pairwise R → (∀ x, x ∈ a ↔ x ∈ b) → a = b
  | [], [], _, _, _ => rfl
  | [], y :: b, _, _, h => by have := (h y).2 (by simp); simp at this
  | x :: a, [], _, _, h => by have := (h x).1 (by simp); simp at this
  | x :: a, y :: b, ha, hb, h => by
    rw [List.pairwise_cons] at ha hb
    have hxy : x = y := by
      have h1 := (h x).1 (by simp)
      have h2 := (h y).2 (by simp)
      rcases List.mem_cons.1 h1 with e | e
      · exact e
      · rcases List.mem_cons.1 h2 with e2 | e2
        · exact e2.symm
        · exact absurd (ha.1 y e2) (asym _ _ (hb.1 x e))
    subst hxy
    have : a = b := sorted_eqR asym ha.2 hb.2 fun z => by
      constructor
      · intro hz
        rcases List.mem_cons.1 ((h z).1 (List.mem_cons_of_mem _ hz)) with e | e
        · subst e; exact absurd (ha.1 z hz) (asym _ _ (ha.1 z hz))
        · exact e
      · intro hz
        rcases List.mem_cons.1 ((h z).2 (List.mem_cons_of_mem _ hz)) with e | e
        · subst e; exact absurd (hb.1 z hz) (asym _ _ (hb.1 z hz))
        · exact e
    rw [this]

/-- Triples: one comes before another. -/
def ltT (a b : I3) : Bool := decide (a.1 < b.1) || (a.1 == b.1 && (decide (a.2.1 < b.2.1) || (a.2.1 == b.2.1 && decide (a.2.2 < b.2.2))))
theorem ltT_iff (a b : I3) : ltT a b = true ↔ a.1 < b.1 ∨ (a.1 = b.1 ∧ (a.2.1 < b.2.1 ∨ (a.2.1 = b.2.1 ∧ a.2.2 < b.2.2))) := by simp [ltT]
theorem ltT_asym (a b : I3) (h : ltT a b = true) : ¬ ltT b a = true := by
  rw [ltT_iff] at h ⊢
  omega
theorem ltT_trans (a b c : I3) (h : ltT a b = true) (k : ltT b c = true) : ltT a c = true := by
  rw [ltT_iff] at h k ⊢
  omega
theorem ltT_total (a b : I3) (h : ¬ ltT a b = true) (hne : a ≠ b) : ltT b a = true := by
  rw [ltT_iff] at h ⊢
  obtain ⟨a1, a2, a3⟩ := a
  obtain ⟨b1, b2, b3⟩ := b
  have : ¬ (a1 = b1 ∧ a2 = b2 ∧ a3 = b3) := fun e => hne (by rw [e.1, e.2.1, e.2.2])
  dsimp only at h ⊢
  omega

/-- A triple put to its place, once. -/
def putT (l : List I3) (x : I3) : List I3 := if l.contains x then l else l.takeWhile (fun y => ltT y x) ++ x :: l.dropWhile (fun y => ltT y x)
def sortT (l : List I3) : List I3 := l.foldl putT []
theorem putT_mem (l : List I3) (x y : I3) : y ∈ putT l x ↔ y ∈ l ∨ y = x := by
  unfold putT
  split
  · rename_i h
    constructor
    · exact .inl
    · rintro (h' | rfl)
      · exact h'
      · simpa using h
  · have : y ∈ l ↔ y ∈ l.takeWhile (fun y => ltT y x) ∨ y ∈ l.dropWhile (fun y => ltT y x) := by
      rw [← List.mem_append, List.takeWhile_append_dropWhile]
    rw [List.mem_append, List.mem_cons, this]
    constructor
    · rintro (h | h | h)
      · exact .inl (.inl h)
      · exact .inr h
      · exact .inl (.inr h)
    · rintro ((h | h) | h)
      · exact .inl h
      · exact .inr (.inr h)
      · exact .inr (.inl h)
theorem take_ltT {x : I3} : ∀ {l : List I3}, ∀ y ∈ l.takeWhile (fun y => ltT y x), ltT y x = true
  | [], y, h => by simp at h
  | z :: l, y, h => by
    rw [List.takeWhile_cons] at h
    split at h
    · rename_i hz
      rcases List.mem_cons.1 h with rfl | h
      · exact hz
      · exact take_ltT y h
    · simp at h
theorem drop_geT {x : I3} : ∀ {l : List I3}, l.Pairwise (fun a b => ltT a b = true) → ∀ y ∈ l.dropWhile (fun y => ltT y x), y = x ∨ ltT x y = true
  | [], _, y, h => by simp at h
  | z :: l, hp, y, h => by
    rw [List.dropWhile_cons] at h
    rw [List.pairwise_cons] at hp
    split at h
    · exact drop_geT hp.2 y h
    · rename_i hz
      have hz' : z = x ∨ ltT x z = true := by
        by_cases e : z = x
        · exact .inl e
        · exact .inr (ltT_total _ _ hz e)
      rcases List.mem_cons.1 h with rfl | h
      · exact hz'
      · have := hp.1 y h
        rcases hz' with rfl | e
        · exact .inr this
        · exact .inr (ltT_trans _ _ _ e this)
theorem putT_sorted {l : List I3} (x : I3) (h : l.Pairwise (fun a b => ltT a b = true)) : (putT l x).Pairwise (fun a b => ltT a b = true) := by
  unfold putT
  split
  · exact h
  · rename_i hx
    have hd := h.sublist (List.dropWhile_sublist (p := fun y => ltT y x) (l := l))
    have ht := h.sublist (List.takeWhile_sublist (p := fun y => ltT y x) (l := l))
    have hge : ∀ y ∈ l.dropWhile (fun y => ltT y x), ltT x y = true := by
      intro y hy
      rcases drop_geT h y hy with e | e
      · have h2 : y ∈ l := (List.dropWhile_sublist _).subset hy
        rw [e] at h2
        exact absurd (by simpa using h2) hx
      · exact e
    rw [List.pairwise_append, List.pairwise_cons]
    refine ⟨ht, ⟨hge, hd⟩, fun a ha b hb => ?_⟩
    have h1 := take_ltT a ha
    rcases List.mem_cons.1 hb with rfl | hb
    · exact h1
    · exact ltT_trans _ _ _ h1 (hge b hb)
theorem fold_putT : ∀ (ss o : List I3), o.Pairwise (fun a b => ltT a b = true) → (ss.foldl putT o).Pairwise (fun a b => ltT a b = true) ∧ ∀ x, x ∈ ss.foldl putT o ↔ x ∈ o ∨ x ∈ ss
  | [], o, h => ⟨h, fun x => by simp⟩
  | s :: ss, o, h => by
    obtain ⟨h1, h2⟩ := fold_putT ss (putT o s) (putT_sorted s h)
    refine ⟨h1, fun x => ?_⟩
    rw [List.foldl_cons, h2 x, putT_mem, List.mem_cons]
    constructor
    · rintro ((h | h) | h)
      · exact .inl h
      · exact .inr (.inl h)
      · exact .inr (.inr h)
    · rintro (h | h | h)
      · exact .inl (.inl h)
      · exact .inl (.inr h)
      · exact .inr h
theorem sortT_sorted (l : List I3) : (sortT l).Pairwise (fun a b => ltT a b = true) := (fold_putT l [] List.Pairwise.nil).1
theorem sortT_mem (l : List I3) (x : I3) : x ∈ sortT l ↔ x ∈ l := by
  have := (fold_putT l [] List.Pairwise.nil).2 x
  simpa [sortT] using this
theorem sortT_of {l o : List I3} (h : o.Pairwise (fun a b => ltT a b = true)) (hm : ∀ x, x ∈ o ↔ x ∈ l) : o = sortT l :=
  sorted_eqR ltT_asym h (sortT_sorted l) fun x => (hm x).trans (sortT_mem l x).symm
theorem sortT_eq {a b : List I3} : sortT a = sortT b ↔ ∀ x, x ∈ a ↔ x ∈ b := by
  constructor
  · intro h x
    rw [← sortT_mem a, h, sortT_mem]
  · intro h
    exact sortT_of (sortT_sorted a) fun x => (sortT_mem a x).trans (h x)

/-- The program: of a state's steps the actions and the ends' parts. -/
def ownL (ss : List I3) (parts : List Int) (i : Int) : List I3 := (ss.filter fun s => s.1 == i).map fun s => (0, s.2.1, atP parts s.2.2)
theorem ownL_mem {ss : List I3} {parts : List Int} {i : Int} {x : I3} : x ∈ ownL ss parts i ↔ ∃ s ∈ ss, s.1 = i ∧ x = (0, s.2.1, atP parts s.2.2) := by
  unfold ownL
  rw [List.mem_map]
  constructor
  · rintro ⟨s, hs, rfl⟩
    rw [List.mem_filter] at hs
    exact ⟨s, hs.1, by simpa using hs.2, rfl⟩
  · rintro ⟨s, hs, h1, rfl⟩
    exact ⟨s, List.mem_filter.2 ⟨hs, by simpa using h1⟩, rfl⟩
theorem own_iff {ss : List I3} {parts : List Int} {i j : Nat} : (parts.getD i 0 = parts.getD j 0 ∧ sortT (ownL ss parts i) = sortT (ownL ss parts j)) ↔ sigB ss parts i j = true := by
  rw [sigB_iff, sortT_eq]
  have hnx : ∀ i j : Nat, nextB ss parts i j = true ↔ ∀ x, x ∈ ownL ss parts (i : Int) → x ∈ ownL ss parts (j : Int) := by
    intro i j
    rw [nextB_iff]
    constructor
    · intro h x hx
      obtain ⟨s, hs, h1, rfl⟩ := ownL_mem.1 hx
      obtain ⟨t, ht, k1, k2, k3⟩ := h s hs h1
      exact ownL_mem.2 ⟨t, ht, k1, by rw [k2, k3]⟩
    · intro h s hs h1
      obtain ⟨t, ht, k1, k2⟩ := ownL_mem.1 (h _ (ownL_mem.2 ⟨s, hs, h1, rfl⟩))
      simp only [Prod.mk.injEq] at k2
      exact ⟨t, ht, k1, k2.2.1.symm, k2.2.2.symm⟩
  rw [hnx i j, hnx j i]
  constructor
  · rintro ⟨h1, h2⟩
    exact ⟨h1, fun x hx => (h2 x).1 hx, fun x hx => (h2 x).2 hx⟩
  · rintro ⟨h1, h2, h3⟩
    exact ⟨h1, fun x => ⟨h2 x, h3 x⟩⟩
def lookL (d : Int → List UInt8) (ss : List I3) (parts : List Int) (i : Nat) : List UInt8 := lookT d (parts.getD i 0) ((sortT (ownL ss parts (i : Int))).map fun x => x.2)
theorem own_zero {ss : List I3} {parts : List Int} {i : Int} : ∀ x ∈ sortT (ownL ss parts i), x.1 = 0 := by
  intro x hx
  obtain ⟨s, _, _, rfl⟩ := ownL_mem.1 ((sortT_mem _ _).1 hx)
  rfl
theorem map_snd_inj : ∀ {a b : List I3}, (∀ x ∈ a, x.1 = 0) → (∀ x ∈ b, x.1 = 0) → a.map (fun x => x.2) = b.map (fun x => x.2) → a = b
  | [], [], _, _, _ => rfl
  | [], y :: b, _, _, h => by simp at h
  | x :: a, [], _, _, h => by simp at h
  | x :: a, y :: b, ha, hb, h => by
    simp only [List.map_cons, List.cons.injEq] at h
    have h1 := map_snd_inj (fun z hz => ha z (List.mem_cons_of_mem _ hz)) (fun z hz => hb z (List.mem_cons_of_mem _ hz)) h.2
    have h2 : x = y := Prod.ext ((ha x (by simp)).trans (hb y (by simp)).symm) h.1
    rw [h1, h2]
theorem look_iff {d : Int → List UInt8} (hd : NumText d) {ss : List I3} {parts : List Int} {i j : Nat} : lookL d ss parts i = lookL d ss parts j ↔ sigB ss parts i j = true := by
  rw [← own_iff]
  constructor
  · intro h
    obtain ⟨h1, h2⟩ := look_inj hd h
    exact ⟨h1, map_snd_inj own_zero own_zero h2⟩
  · rintro ⟨h1, h2⟩
    unfold lookL
    rw [h1, h2]

end Go.Proofs.YtdgnhfhaaghoaaaGreatDoor

set_option linter.unusedVariables false
namespace Go.Proofs.YtdgnhfhaaghoaaaGreatDoor
open Go.RowKit
open Go.Sort (SWO grow putRow putCells Holds putRowK HoldsK flatK mapBlock onCells grow_grow alloc_eq_grow heap_grow_old)

theorem lt3_T (t u : I3) : lt3 t u = ltT t u := by
  obtain ⟨x, y, z⟩ := t
  obtain ⟨x', y', z'⟩ := u
  by_cases hx : x = x'
  · subst hx
    by_cases hy : y = y'
    · subst hy
      by_cases hz : z = z'
      · subst hz
        rw [lt3_self]
        simp [ltT]
      · rw [lt3_ne3 hz]
        simp [ltT]
    · rw [lt3_ne2 hy]
      simp [ltT, hy]
  · rw [lt3_ne1 hx]
    simp [ltT, hx]
theorem ltOf_T (t u : I3) : ltOf cmp3 t u = ltT t u := by
  rw [← lt3_T]
  rfl
theorem swoT : SWO (ltOf cmp3) where
  irrefl x := by rw [ltOf_T]; simp [ltT]
  trans x y z h1 h2 := by rw [ltOf_T] at *; exact ltT_trans _ _ _ h1 h2
  ntrans x y z h1 h2 := by
    rw [ltOf_T] at *
    rw [Bool.eq_false_iff] at h1 h2 ⊢
    rw [Ne, ltT_iff] at h1 h2 ⊢
    omega

set_option maxRecDepth 100000 in
set_option maxHeartbeats 1000000 in
theorem compareSteps_grow (t u : I3) (w : World) :
    Calls Tryz.prog 156 #[.agg #[.int .i64 t.1, .int .i64 t.2.1, .int .i64 t.2.2], .agg #[.int .i64 u.1, .int .i64 u.2.1, .int .i64 u.2.2]] w fun e w' => e = .returned (.int .i64 (cmp3 t u)) ∧ ∃ q os', w' = grow (w.drewN q) os' := by
  unfold cmp3
  go_enter Tryz.func156, Tryz.ntmps156
  go_wp2
  go_still_tail 2, (by kernel_rfl)
  obtain ⟨b0, b1, _⟩ := two_boxes (Below.refl ((w.alloc (.cells #[.int .i64 t.1, .int .i64 t.2.1, .int .i64 t.2.2] 103)).alloc (.cells #[.int .i64 u.1, .int .i64 u.2.1, .int .i64 u.2.2] 103)).heap.size ((w.alloc (.cells #[.int .i64 t.1, .int .i64 t.2.1, .int .i64 t.2.2] 103)).alloc (.cells #[.int .i64 u.1, .int .i64 u.2.1, .int .i64 u.2.2] 103)))
  have H0 := (slicesCompare_any _ _ 3 3 [t.1, t.2.1, t.2.2] [u.1, u.2.1, u.2.2] ((w.alloc (.cells #[.int .i64 t.1, .int .i64 t.2.1, .int .i64 t.2.2] 103)).alloc (.cells #[.int .i64 u.1, .int .i64 u.2.1, .int .i64 u.2.2] 103)).drew (by simp) (by simp) (cells_of_heap b0) (cells_of_heap b1))
  simp only [List.length_cons, List.length_nil, Nat.zero_add, Nat.reduceAdd] at H0
  have H := Lib.hid H0
  change wpList _ _ _ _ _ (World.drew _)
  clear b0 b1 H0
  go_wp2_with ((with_reducible refine H.out.mono ?_); rintro e w1 ⟨rfl, rfl⟩)
  go_ret
  exact ⟨rfl, 1, _, by rw [alloc_eq_grow, alloc_eq_grow, grow_grow]; rfl⟩

theorem flatK_tri (l : List I3) : flatK tri 3 l.toArray = (l.flatMap tri).toArray := by
  apply Array.ext
  · rw [Go.Sort.size_flatK, List.size_toArray, List.size_toArray, tri_len]
  · intro t h1 h2
    have hl : t < l.length * 3 := by simpa using h1
    have hk : t / 3 < l.length := by omega
    obtain ⟨a0, a1, a2⟩ := tri_flat l (List.getElem?_eq_getElem hk)
    have e1 : (flatK tri 3 l.toArray)[t] = (tri l[t / 3])[t % 3]! := by
      simp [flatK, hk]
    rw [e1, List.getElem_toArray]
    have hm : t % 3 = 0 ∨ t % 3 = 1 ∨ t % 3 = 2 := by omega
    have ht : t = t / 3 * 3 + t % 3 := by omega
    have hq : ∀ j v, t = j → (l.flatMap tri)[j]? = some v → (l.flatMap tri)[t]'(by simpa using h2) = v := by
      intro j v e hv
      subst e
      rw [List.getElem?_eq_some_iff] at hv
      exact hv.2
    rcases hm with h | h | h
    · rw [hq _ _ (by omega) a0, h]; rfl
    · rw [hq _ _ (by omega) a1, h]; rfl
    · rw [hq _ _ (by omega) a2, h]; rfl

theorem heap_sortedV {w : World} {g n : Nat} {os : Array Obj} {cur : Array Value} {e : TypeId} {fr : Nat × Nat} (d : Array Value) (hb : w.heap[g]? = some (.cells cur e fr)) :
    (grow (putRow id (Sort.ahead w n) g 0 d) os).heap[g]? = some (.cells (putCells id 0 d cur) e fr) := by
  have hg : g < w.heap.size := (Array.getElem?_eq_some_iff.1 hb).1
  rw [heap_grow_old _ _ (by simpa using hg)]
  simp [putRow, mapBlock, Sort.ahead, Array.getElem?_modify, hb, onCells]
theorem grownBy_sortedV {w : World} {g n : Nat} {os : Array Obj} (d : Array Value) : w.grownBy (grow (putRow id (Sort.ahead w n) g 0 d) os) (some g) := by
  refine ⟨rfl, rfl, rfl, by simp, fun k hk hne => ?_⟩
  rw [heap_grow_old _ _ (by simpa using hk)]
  have : g ≠ k := fun e => hne (by rw [e])
  simp [putRow, mapBlock, Sort.ahead, Array.getElem?_modify, this]
theorem take_putCellsV (cur : Array Value) (ts : List Value) (h : ts.length ≤ cur.size) : (putCells id 0 ts.toArray cur).toList.take ts.length = ts := by
  apply List.ext_getElem?
  intro j
  by_cases hj : j < ts.length
  · rw [List.getElem?_take_of_lt hj, Array.getElem?_toList]
    simp [putCells, hj, show j < cur.size by omega]
  · rw [List.getElem?_take_eq_none (by omega), List.getElem?_eq_none (by omega)]
theorem ownsRow_sortedV {w : World} {base g c n m sz : Nat} {e : TypeId} {os : Array Obj} {xs ts : List Value} (h : w.ownsRow base e sz (.slice (some ⟨g, 0, none⟩) n c) n xs) (hl : ts.length = xs.length) :
    (grow (putRow id (Sort.ahead w m) g 0 ts.toArray) os).ownsRow base e sz (.slice (some ⟨g, 0, none⟩) n c) n ts := by
  have h0 := h.1
  rcases h.2 with ⟨e1, _⟩ | ⟨g', cap, cur, e1, h1, h2, h3, h4, h5, h6⟩
  · cases e1
  · cases e1
    have hm := Nat.mul_le_mul_right sz h3
    refine ⟨by omega, .inr ⟨g, c, _, rfl, h1, heap_sortedV _ h2, h3, h4, by simp [putCells, h5], ?_⟩⟩
    rw [← h0, ← hl]
    exact take_putCellsV cur ts (by omega)

theorem sortT_any (g c B : Nat) (l : List I3) (w : World) (hn : l.length ≤ 2000000000000) (h : w.ownsRow B 103 3 (.slice (some ⟨g, 0, none⟩) l.length c) l.length (l.flatMap tri)) :
    Calls Tryz.prog 155 #[.slice (some ⟨g, 0, none⟩) l.length c, .func (.func 156) #[] #[]] w fun e w' => e = .returned (.tuple #[]) ∧ ∃ ys : List I3, ys.Perm l ∧ ys.Pairwise (fun a b => ltT b a = false) ∧
      w'.ownsRow B 103 3 (.slice (some ⟨g, 0, none⟩) l.length c) l.length (ys.flatMap tri) ∧ w.grownBy w' (some g) := by
  have eg : ∀ args w, (callFunc 156 args).run Tryz.prog w = .ok (.enter 156 args) w := enters_of Tryz.func156 (by kernel_rfl) rfl
  have hcells := (Cells.of_owns h)
  have hH : HoldsK tri 3 w g 0 l.toArray := by
    unfold HoldsK
    rw [flatK_tri]
    intro j hj
    have hj' : j < (l.flatMap tri).length := by simpa using hj
    obtain ⟨b, o, e, hc⟩ := hcells j _ (List.getElem?_eq_getElem hj')
    cases e
    refine ⟨?_, h.frozenAt _⟩
    rw [hc]
    simp
    rw [List.getElem?_eq_getElem hj']
    rfl
  have hcon := AnyQ.slices_SortFunc_total Tryz.laysSF 3 Tryz.isAgg103 Tryz.sizeOf103 tri (fun _ => rfl) (fun x v hv => by simp [tri] at hv; rcases hv with rfl | rfl | rfl <;> rfl) cmp3 swoT 156 #[] g 0 c l.toArray w eg
    (fun m os dk hs x y => compareSteps_grow x y _) hH (h.lt g rfl).2 (by simp; omega) (fun x y h1 h2 => by
      rw [ltOf_T] at h1 h2
      refine Classical.byContradiction fun hne => ?_
      have := ltT_total x y (by rw [h1]; simp) hne
      rw [h2] at this
      cases this)
  change Calls Tryz.prog 155 _ _ _ at hcon
  have hsz : l.toArray.size = l.length := by simp
  rw [hsz] at hcon
  refine hcon.mono ?_
  rintro e w' ⟨rfl, n, os, rfl⟩
  have hp : (l.mergeSort fun x y => !(ltOf cmp3) y x).Perm l := List.mergeSort_perm _ _
  refine ⟨rfl, l.mergeSort fun x y => !(ltOf cmp3) y x, hp, ?_, ?_, ?_⟩
  · have := List.pairwise_mergeSort (le := fun x y : I3 => !(ltOf cmp3) y x) (fun a b c h1 h2 => by
      simp only [Bool.not_eq_true', ltOf_T] at *
      rw [Bool.eq_false_iff, Ne, ltT_iff] at *
      omega) (fun a b => by
      simp only [Bool.or_eq_true, Bool.not_eq_true', ltOf_T]
      rw [Bool.eq_false_iff, Bool.eq_false_iff, Ne, Ne, ltT_iff, ltT_iff]
      omega) l
    exact this.imp (fun h => by simpa [ltOf_T] using h)
  · unfold sortWorldK putRowK
    rw [flatK_tri]
    exact ownsRow_sortedV h (by rw [tri_len, tri_len]; simp [List.length_mergeSort])
  · unfold sortWorldK putRowK
    exact grownBy_sortedV _

theorem sortT_comp {l ys : List I3} (hp : ys.Perm l) (hs : ys.Pairwise (fun a b => ltT b a = false)) : compC (0, 0, 0) ys ys.length = sortT l := by
  refine sortT_of ?_ ?_
  · refine compC_strict (R := fun a b => ltT b a = false) (fun a b h1 h2 => ltT_total b a (by rw [h1]; simp) (fun e => h2 e.symm)) (fun a b c h1 h2 => by
      rw [Bool.eq_false_iff, Ne, ltT_iff] at h1
      rw [ltT_iff] at h2 ⊢
      omega) hs (fun a => by rw [Bool.eq_false_iff]; exact fun h => ltT_asym _ _ h h)
  · intro x
    rw [compC_mem]
    exact hp.mem_iff

set_option maxRecDepth 100000 in
set_option maxHeartbeats 4000000 in
theorem sortedSteps_any (v : Value) (l : List I3) (w : World) (hn : l.length ≤ 2000000000000) (hv : RA3 w v l) :
    Calls Tryz.prog 89 #[v] w fun e w' => ∃ r, e = .returned r ∧ w'.ownsRow w.heap.size 103 3 r (sortT l).length ((sortT l).flatMap tri) ∧ Below w.heap.size w w' := by
  have HCL := Lib.hid (cloneT_any v l w (by omega) hv)
  obtain ⟨A, c, rfl, _, _⟩ := hv
  go_enter Tryz.func89, Tryz.ntmps89
  go_wp2_with fail
  refine HCL.out.mono ?_
  rintro e w1 ⟨u, rfl, hu, hb1⟩
  rcases hu.2 with ⟨rfl, h0⟩ | ⟨g, cap, cur, rfl, hg0, _⟩
  · have hl : l = [] := List.eq_nil_of_length_eq_zero h0
    subst hl
    have H := Lib.hid (AnyF.slices_SortFunc_none Tryz.laysSF none 0 (.func (.func 156) #[] #[]) w1)
    have HB := Lib.hid hb1
    clear hu hb1 h0
    go_wp2_with fail
    refine (show Calls Tryz.prog 155 _ _ _ from H.out).mono ?_
    rintro e w2 ⟨rfl, rfl⟩
    have HC : Calls Tryz.prog 157 #[.slice none 0 0] w2 fun e w' => e = .returned (.slice none 0 0) ∧ w' = w2 := by
      clear H HB HCL
      go_enter Tryz.func157, Tryz.ntmps157
      go_wp2_with fail
      go_ret
      exact ⟨rfl, rfl⟩
    have HC := Lib.hid HC
    go_wp2_with fail
    refine HC.out.mono ?_
    rintro e w3 ⟨rfl, rfl⟩
    go_wp2_with fail
    go_ret
    exact ⟨_, rfl, World.ownsRow_nil _ _ _ _, HB.out⟩
  · have HU := Lib.hid hu
    have HB := Lib.hid hb1
    have H := Lib.hid (sortT_any g cap w.heap.size l w1 hn hu)
    have hs1 := hb1.size
    clear hu hb1
    go_wp2_with fail
    refine H.out.mono ?_
    rintro e w2 ⟨rfl, ys, hp, hst, ho2, hg2⟩
    have hlen := hp.length_eq
    have hcp := sortT_comp hp hst
    have HC := compactT_any g cap w.heap.size ys w2 (by omega) (by rw [hlen]; exact ho2)
    rw [hcp, hlen] at HC
    have HC := Lib.hid HC
    have HB2 := Lib.hid (HB.out.grown hg2 hs1 (fun q hq => by cases hq; exact hg0))
    have hs2 := HB2.out.size
    clear hp hst ho2 hg2 hlen hcp
    go_wp2_with fail
    refine HC.out.mono ?_
    rintro e w3 ⟨rfl, ho3, hg3⟩
    have HO := Lib.hid ho3
    have HB3 := Lib.hid (HB2.out.grown hg3 hs2 (fun q hq => by cases hq; exact hg0))
    clear ho3 hg3
    go_wp2_with fail
    go_ret
    exact ⟨_, rfl, HO.out, HB3.out⟩

end Go.Proofs.YtdgnhfhaaghoaaaGreatDoor
