/- Triples sorted: slices.SortFunc by compareSteps, sortedSteps walked. The states that are reached from a state. Plain law: the program's search and the reference's rounds give the same list. -/
import Derived.Test.YtdgnhfhaaghoaaaGreatDoorProg
import Derived.Test.YtdgnhfhaaghoaaaGreatDoorJ5
import Derived.Test.YtdgnhfhaaghoaaaGreatDoorJ6
import Derived.Test.YtdgnhfhaaghoaaaGreatDoorJ7
import Derived.Test.YtdgnhfhaaghoaaaGreatDoorJ9
import Derived.Sort.OwnSorted
set_option linter.unusedSimpArgs false
set_option linter.unusedVariables false
namespace Go.Proofs.YtdgnhfhaaghoaaaGreatDoor
open Go.RowKit
open Go.Sort (SWO grow putRow putCells Holds putRowK HoldsK flatK mapBlock onCells grow_grow alloc_eq_grow heap_grow_old)

theorem lt3_T (t u : I3) : lt3 t u = ltT t u := by
  obtain ⟨x, y, z⟩ := t
  obtain ⟨x', y', z'⟩ := u
  by_cases hx : x = x'
  · subst hx
    by_cases hy : y = y'
    · subst hy
      by_cases hz : z = z'
      · subst hz
        rw [lt3_self]
        simp [ltT]
      · rw [lt3_ne3 hz]
        simp [ltT]
    · rw [lt3_ne2 hy]
      simp [ltT, hy]
  · rw [lt3_ne1 hx]
    simp [ltT, hx]
theorem ltOf_T (t u : I3) : ltOf cmp3 t u = ltT t u := by
  rw [← lt3_T]
  rfl
theorem swoT : SWO (ltOf cmp3) where
  irrefl x := by rw [ltOf_T]; simp [ltT]
  trans x y z h1 h2 := by rw [ltOf_T] at *; exact ltT_trans _ _ _ h1 h2
  ntrans x y z h1 h2 := by
    rw [ltOf_T] at *
    rw [Bool.eq_false_iff] at h1 h2 ⊢
    rw [Ne, ltT_iff] at h1 h2 ⊢
    omega

set_option maxRecDepth 100000 in
set_option maxHeartbeats 1000000 in
theorem compareSteps_grow (t u : I3) (w : World) :
    Calls Tryz.prog 156 #[.agg #[.int .i64 t.1, .int .i64 t.2.1, .int .i64 t.2.2], .agg #[.int .i64 u.1, .int .i64 u.2.1, .int .i64 u.2.2]] w fun e w' => e = .returned (.int .i64 (cmp3 t u)) ∧ ∃ q os', w' = grow (w.drewN q) os' := by
  unfold cmp3
  go_enter Tryz.func156, Tryz.ntmps156
  go_wp2
  go_still_tail 2, (by kernel_rfl)
  obtain ⟨b0, b1, _⟩ := two_boxes (Below.refl ((w.alloc (.cells #[.int .i64 t.1, .int .i64 t.2.1, .int .i64 t.2.2] 103)).alloc (.cells #[.int .i64 u.1, .int .i64 u.2.1, .int .i64 u.2.2] 103)).heap.size ((w.alloc (.cells #[.int .i64 t.1, .int .i64 t.2.1, .int .i64 t.2.2] 103)).alloc (.cells #[.int .i64 u.1, .int .i64 u.2.1, .int .i64 u.2.2] 103)))
  have H0 := (slicesCompare_any _ _ 3 3 [t.1, t.2.1, t.2.2] [u.1, u.2.1, u.2.2] ((w.alloc (.cells #[.int .i64 t.1, .int .i64 t.2.1, .int .i64 t.2.2] 103)).alloc (.cells #[.int .i64 u.1, .int .i64 u.2.1, .int .i64 u.2.2] 103)).drew (by simp) (by simp) (cells_of_heap b0) (cells_of_heap b1))
  simp only [List.length_cons, List.length_nil, Nat.zero_add, Nat.reduceAdd] at H0
  have H := Lib.hid H0
  change wpList _ _ _ _ _ (World.drew _)
  clear b0 b1 H0
  go_wp2_with ((with_reducible refine H.out.mono ?_); rintro e w1 ⟨rfl, rfl⟩)
  go_ret
  exact ⟨rfl, 1, _, by rw [alloc_eq_grow, alloc_eq_grow, grow_grow]; rfl⟩

theorem flatK_tri (l : List I3) : flatK tri 3 l.toArray = (l.flatMap tri).toArray := by
  apply Array.ext
  · rw [Go.Sort.size_flatK, List.size_toArray, List.size_toArray, tri_len]
  · intro t h1 h2
    have hl : t < l.length * 3 := by simpa using h1
    have hk : t / 3 < l.length := by omega
    obtain ⟨a0, a1, a2⟩ := tri_flat l (List.getElem?_eq_getElem hk)
    have e1 : (flatK tri 3 l.toArray)[t] = (tri l[t / 3])[t % 3]! := by
      simp [flatK, hk]
    rw [e1, List.getElem_toArray]
    have hm : t % 3 = 0 ∨ t % 3 = 1 ∨ t % 3 = 2 := by omega
    have ht : t = t / 3 * 3 + t % 3 := by omega
    have hq : ∀ j v, t = j → (l.flatMap tri)[j]? = some v → (l.flatMap tri)[t]'(by simpa using h2) = v := by
      intro j v e hv
      subst e
      rw [List.getElem?_eq_some_iff] at hv
      exact hv.2
    rcases hm with h | h | h
    · rw [hq _ _ (by omega) a0, h]; rfl
    · rw [hq _ _ (by omega) a1, h]; rfl
    · rw [hq _ _ (by omega) a2, h]; rfl

theorem heap_sortedV {w : World} {g n : Nat} {os : Array Obj} {cur : Array Value} {e : TypeId} {fr : Nat × Nat} (d : Array Value) (hb : w.heap[g]? = some (.cells cur e fr)) :
    (grow (putRow id (Sort.ahead w n) g 0 d) os).heap[g]? = some (.cells (putCells id 0 d cur) e fr) := by
  have hg : g < w.heap.size := (Array.getElem?_eq_some_iff.1 hb).1
  rw [heap_grow_old _ _ (by simpa using hg)]
  simp [putRow, mapBlock, Sort.ahead, Array.getElem?_modify, hb, onCells]
theorem grownBy_sortedV {w : World} {g n : Nat} {os : Array Obj} (d : Array Value) : w.grownBy (grow (putRow id (Sort.ahead w n) g 0 d) os) (some g) := by
  refine ⟨rfl, rfl, rfl, by simp, fun k hk hne => ?_⟩
  rw [heap_grow_old _ _ (by simpa using hk)]
  have : g ≠ k := fun e => hne (by rw [e])
  simp [putRow, mapBlock, Sort.ahead, Array.getElem?_modify, this]
theorem take_putCellsV (cur : Array Value) (ts : List Value) (h : ts.length ≤ cur.size) : (putCells id 0 ts.toArray cur).toList.take ts.length = ts := by
  apply List.ext_getElem?
  intro j
  by_cases hj : j < ts.length
  · rw [List.getElem?_take_of_lt hj, Array.getElem?_toList]
    simp [putCells, hj, show j < cur.size by omega]
  · rw [List.getElem?_take_eq_none (by omega), List.getElem?_eq_none (by omega)]
theorem ownsRow_sortedV {w : World} {base g c n m sz : Nat} {e : TypeId} {os : Array Obj} {xs ts : List Value} (h : w.ownsRow base e sz (.slice (some ⟨g, 0, none⟩) n c) n xs) (hl : ts.length = xs.length) :
    (grow (putRow id (Sort.ahead w m) g 0 ts.toArray) os).ownsRow base e sz (.slice (some ⟨g, 0, none⟩) n c) n ts := by
  have h0 := h.1
  rcases h.2 with ⟨e1, _⟩ | ⟨g', cap, cur, e1, h1, h2, h3, h4, h5, h6⟩
  · cases e1
  · cases e1
    have hm := Nat.mul_le_mul_right sz h3
    refine ⟨by omega, .inr ⟨g, c, _, rfl, h1, heap_sortedV _ h2, h3, h4, by simp [putCells, h5], ?_⟩⟩
    rw [← h0, ← hl]
    exact take_putCellsV cur ts (by omega)

theorem sortT_any (g c B : Nat) (l : List I3) (w : World) (hn : l.length ≤ 2000000000000) (h : w.ownsRow B 103 3 (.slice (some ⟨g, 0, none⟩) l.length c) l.length (l.flatMap tri)) :
    Calls Tryz.prog 155 #[.slice (some ⟨g, 0, none⟩) l.length c, .func (.func 156) #[] #[]] w fun e w' => e = .returned (.tuple #[]) ∧ ∃ ys : List I3, ys.Perm l ∧ ys.Pairwise (fun a b => ltT b a = false) ∧
      w'.ownsRow B 103 3 (.slice (some ⟨g, 0, none⟩) l.length c) l.length (ys.flatMap tri) ∧ w.grownBy w' (some g) := by
  have eg : ∀ args w, (callFunc 156 args).run Tryz.prog w = .ok (.enter 156 args) w := enters_of Tryz.func156 (by kernel_rfl) rfl
  have hcells := (Cells.of_owns h)
  have hH : HoldsK tri 3 w g 0 l.toArray := by
    unfold HoldsK
    rw [flatK_tri]
    intro j hj
    have hj' : j < (l.flatMap tri).length := by simpa using hj
    obtain ⟨b, o, e, hc⟩ := hcells j _ (List.getElem?_eq_getElem hj')
    cases e
    refine ⟨?_, h.frozenAt _⟩
    rw [hc]
    simp
    rw [List.getElem?_eq_getElem hj']
    rfl
  have hcon := AnyQ.slices_SortFunc_total Tryz.laysSF 3 Tryz.isAgg103 Tryz.sizeOf103 tri (fun _ => rfl) (fun x v hv => by simp [tri] at hv; rcases hv with rfl | rfl | rfl <;> rfl) cmp3 swoT 156 #[] g 0 c l.toArray w eg
    (fun m os dk hs x y => compareSteps_grow x y _) hH (h.lt g rfl).2 (by simp; omega) (fun x y h1 h2 => by
      rw [ltOf_T] at h1 h2
      refine Classical.byContradiction fun hne => ?_
      have := ltT_total x y (by rw [h1]; simp) hne
      rw [h2] at this
      cases this)
  change Calls Tryz.prog 155 _ _ _ at hcon
  have hsz : l.toArray.size = l.length := by simp
  rw [hsz] at hcon
  refine hcon.mono ?_
  rintro e w' ⟨rfl, n, os, rfl⟩
  have hp : (l.mergeSort fun x y => !(ltOf cmp3) y x).Perm l := List.mergeSort_perm _ _
  refine ⟨rfl, l.mergeSort fun x y => !(ltOf cmp3) y x, hp, ?_, ?_, ?_⟩
  · have := List.pairwise_mergeSort (le := fun x y : I3 => !(ltOf cmp3) y x) (fun a b c h1 h2 => by
      simp only [Bool.not_eq_true', ltOf_T] at *
      rw [Bool.eq_false_iff, Ne, ltT_iff] at *
      omega) (fun a b => by
      simp only [Bool.or_eq_true, Bool.not_eq_true', ltOf_T]
      rw [Bool.eq_false_iff, Bool.eq_false_iff, Ne, Ne, ltT_iff, ltT_iff]
      omega) l
    exact this.imp (fun h => by simpa [ltOf_T] using h)
  · unfold sortWorldK putRowK
    rw [flatK_tri]
    exact ownsRow_sortedV h (by rw [tri_len, tri_len]; simp [List.length_mergeSort])
  · unfold sortWorldK putRowK
    exact grownBy_sortedV _

theorem sortT_comp {l ys : List I3} (hp : ys.Perm l) (hs : ys.Pairwise (fun a b => ltT b a = false)) : compC (0, 0, 0) ys ys.length = sortT l := by
  refine sortT_of ?_ ?_
  · refine compC_strict (R := fun a b => ltT b a = false) (fun a b h1 h2 => ltT_total b a (by rw [h1]; simp) (fun e => h2 e.symm)) (fun a b c h1 h2 => by
      rw [Bool.eq_false_iff, Ne, ltT_iff] at h1
      rw [ltT_iff] at h2 ⊢
      omega) hs (fun a => by rw [Bool.eq_false_iff]; exact fun h => ltT_asym _ _ h h)
  · intro x
    rw [compC_mem]
    exact hp.mem_iff

set_option maxRecDepth 100000 in
set_option maxHeartbeats 4000000 in
theorem sortedSteps_any (v : Value) (l : List I3) (w : World) (hn : l.length ≤ 2000000000000) (hv : RA3 w v l) :
    Calls Tryz.prog 89 #[v] w fun e w' => ∃ r, e = .returned r ∧ w'.ownsRow w.heap.size 103 3 r (sortT l).length ((sortT l).flatMap tri) ∧ Below w.heap.size w w' := by
  have HCL := Lib.hid (cloneT_any v l w (by omega) hv)
  obtain ⟨A, c, rfl, _, _⟩ := hv
  go_enter Tryz.func89, Tryz.ntmps89
  go_wp2_with fail
  refine HCL.out.mono ?_
  rintro e w1 ⟨u, rfl, hu, hb1⟩
  rcases hu.2 with ⟨rfl, h0⟩ | ⟨g, cap, cur, rfl, hg0, _⟩
  · have hl : l = [] := List.eq_nil_of_length_eq_zero h0
    subst hl
    have H := Lib.hid (AnyF.slices_SortFunc_none Tryz.laysSF none 0 (.func (.func 156) #[] #[]) w1)
    have HB := Lib.hid hb1
    clear hu hb1 h0
    go_wp2_with fail
    refine (show Calls Tryz.prog 155 _ _ _ from H.out).mono ?_
    rintro e w2 ⟨rfl, rfl⟩
    have HC : Calls Tryz.prog 157 #[.slice none 0 0] w2 fun e w' => e = .returned (.slice none 0 0) ∧ w' = w2 := by
      clear H HB HCL
      go_enter Tryz.func157, Tryz.ntmps157
      go_wp2_with fail
      go_ret
      exact ⟨rfl, rfl⟩
    have HC := Lib.hid HC
    go_wp2_with fail
    refine HC.out.mono ?_
    rintro e w3 ⟨rfl, rfl⟩
    go_wp2_with fail
    go_ret
    exact ⟨_, rfl, World.ownsRow_nil _ _ _ _, HB.out⟩
  · have HU := Lib.hid hu
    have HB := Lib.hid hb1
    have H := Lib.hid (sortT_any g cap w.heap.size l w1 hn hu)
    have hs1 := hb1.size
    clear hu hb1
    go_wp2_with fail
    refine H.out.mono ?_
    rintro e w2 ⟨rfl, ys, hp, hst, ho2, hg2⟩
    have hlen := hp.length_eq
    have hcp := sortT_comp hp hst
    have HC := compactT_any g cap w.heap.size ys w2 (by omega) (by rw [hlen]; exact ho2)
    rw [hcp, hlen] at HC
    have HC := Lib.hid HC
    have HB2 := Lib.hid (HB.out.grown hg2 hs1 (fun q hq => by cases hq; exact hg0))
    have hs2 := HB2.out.size
    clear hp hst ho2 hg2 hlen hcp
    go_wp2_with fail
    refine HC.out.mono ?_
    rintro e w3 ⟨rfl, ho3, hg3⟩
    have HO := Lib.hid ho3
    have HB3 := Lib.hid (HB2.out.grown hg3 hs2 (fun q hq => by cases hq; exact hg0))
    clear ho3 hg3
    go_wp2_with fail
    go_ret
    exact ⟨_, rfl, HO.out, HB3.out⟩

end Go.Proofs.YtdgnhfhaaghoaaaGreatDoor

set_option linter.unusedVariables false
namespace Go.Proofs.YtdgnhfhaaghoaaaGreatDoor

/-- A set of states that steps do not leave. -/
def Closed (ss : List I3) (C : Int → Prop) : Prop := ∀ s ∈ ss, C s.1 → C s.2.2

/-- The list has p, steps do not leave it, and each such set has all of it. -/
def IsReach (ss : List I3) (p : Int) (o : List Int) : Prop := p ∈ o ∧ Closed ss (· ∈ o) ∧ ∀ C : Int → Prop, C p → Closed ss C → ∀ x ∈ o, C x

theorem IsReach.same {ss : List I3} {p : Int} {a b : List Int} (ha : IsReach ss p a) (hb : IsReach ss p b) (x : Int) : x ∈ a ↔ x ∈ b :=
  ⟨fun h => ha.2.2 _ hb.1 hb.2.1 x h, fun h => hb.2.2 _ ha.1 ha.2.1 x h⟩

/-- The reference's rounds. -/
def putStep (o : List Int) (s : I3) : List Int := if o.contains s.1 then putI o s.2.2 else o
def reachR (ss : List I3) (p : Int) : Nat → List Int
  | 0 => [p]
  | k + 1 => ss.foldl putStep (reachR ss p k)

theorem putStep_mem {o : List Int} {s : I3} {y : Int} : y ∈ putStep o s ↔ y ∈ o ∨ (s.1 ∈ o ∧ y = s.2.2) := by
  unfold putStep
  split
  · rename_i h
    rw [putI_mem]
    have : s.1 ∈ o := by simpa using h
    simp [this]
  · rename_i h
    have : s.1 ∉ o := by simpa using h
    simp [this]
theorem putStep_len {o : List Int} {s : I3} : o.length ≤ (putStep o s).length := by
  unfold putStep
  split
  · rw [putI_len]; split <;> omega
  · omega
theorem putStep_grow {o : List Int} {s : I3} (h : ¬ (s.1 ∈ o → s.2.2 ∈ o)) : o.length < (putStep o s).length := by
  have h1 : s.1 ∈ o := Classical.byContradiction fun k => h fun k' => absurd k' k
  have h2 : s.2.2 ∉ o := fun k => h fun _ => k
  unfold putStep
  rw [if_pos (by simpa using h1), putI_len, if_neg (by simpa using h2)]
  omega
theorem putStep_same {o : List Int} {s : I3} (h : s.1 ∈ o → s.2.2 ∈ o) : putStep o s = o := by
  unfold putStep
  split
  · rename_i h1
    unfold putI
    rw [if_pos (by simpa using h (by simpa using h1))]
  · rfl
theorem fold_put_len : ∀ (ss : List I3) (o : List Int), o.length ≤ (ss.foldl putStep o).length
  | [], _ => Nat.le_refl _
  | s :: ss, o => Nat.le_trans putStep_len (fold_put_len ss _)
theorem fold_put_closed : ∀ (ss : List I3) (o : List Int), (ss.foldl putStep o).length = o.length → Closed ss (· ∈ o)
  | [], _, _ => fun s h => by simp at h
  | s :: ss, o, h => by
    rw [List.foldl_cons] at h
    have h1 := fold_put_len ss (putStep o s)
    have h2 := putStep_len (o := o) (s := s)
    have hs : s.1 ∈ o → s.2.2 ∈ o := Classical.byContradiction fun k => by have := putStep_grow k; omega
    rw [putStep_same hs] at h
    intro t ht
    rcases List.mem_cons.1 ht with rfl | ht
    · exact hs
    · exact fold_put_closed ss o h t ht
theorem fold_put_same : ∀ {ss : List I3} {o : List Int}, Closed ss (· ∈ o) → ss.foldl putStep o = o
  | [], _, _ => rfl
  | s :: ss, o, h => by
    rw [List.foldl_cons, putStep_same (h s (by simp))]
    exact fold_put_same fun t ht => h t (List.mem_cons_of_mem _ ht)
theorem fold_put_sub {C : Int → Prop} : ∀ {ss : List I3} {o : List Int}, Closed ss C → (∀ x ∈ o, C x) → ∀ x ∈ ss.foldl putStep o, C x
  | [], _, _, h => h
  | s :: ss, o, hc, h => by
    rw [List.foldl_cons]
    refine fold_put_sub (fun t ht => hc t (List.mem_cons_of_mem _ ht)) fun x hx => ?_
    rcases putStep_mem.1 hx with h1 | ⟨h1, rfl⟩
    · exact h x h1
    · exact hc s (by simp) (h _ h1)
theorem fold_put_in : ∀ (ss : List I3) (o : List Int), ∀ x ∈ o, x ∈ ss.foldl putStep o
  | [], _, _, h => h
  | s :: ss, o, x, h => by
    rw [List.foldl_cons]
    exact fold_put_in ss _ x (putStep_mem.2 (.inl h))
theorem fold_put_sorted : ∀ (ss : List I3) {o : List Int}, o.Pairwise (· < ·) → (ss.foldl putStep o).Pairwise (· < ·)
  | [], _, h => h
  | s :: ss, o, h => by
    rw [List.foldl_cons]
    refine fold_put_sorted ss ?_
    unfold putStep
    split
    · exact putI_sorted _ h
    · exact h

/-- All numbers in steps are states. -/
def StepsN (n : Nat) (ss : List I3) : Prop := ∀ s ∈ ss, ∃ i j : Nat, s.1 = (i : Int) ∧ s.2.2 = (j : Int) ∧ i < n ∧ j < n

theorem reachR_sorted (ss : List I3) (p : Int) : ∀ k, (reachR ss p k).Pairwise (· < ·)
  | 0 => List.pairwise_singleton _ _
  | k + 1 => fold_put_sorted ss (reachR_sorted ss p k)
theorem reachR_sub {ss : List I3} {p : Int} {C : Int → Prop} (h0 : C p) (hc : Closed ss C) : ∀ k, ∀ x ∈ reachR ss p k, C x
  | 0, x, h => by simp [reachR] at h; rw [h]; exact h0
  | k + 1, x, h => fold_put_sub hc (reachR_sub h0 hc k) x h
theorem stepsN_closed {n : Nat} {ss : List I3} (h : StepsN n ss) : Closed ss fun x => ∃ i : Nat, x = (i : Int) ∧ i < n := fun s hs _ => by
  obtain ⟨i, j, _, h2, _, h4⟩ := h s hs
  exact ⟨j, h2, h4⟩
theorem reachR_inN {n p : Nat} {ss : List I3} (h : StepsN n ss) (hp : p < n) (k : Nat) : InN n (reachR ss p k) :=
  fun x hx => reachR_sub (C := fun x => ∃ i : Nat, x = (i : Int) ∧ i < n) ⟨p, rfl, hp⟩ (stepsN_closed h) k x hx
theorem reachR_len {n p : Nat} {ss : List I3} (h : StepsN n ss) (hp : p < n) (k : Nat) : (reachR ss p k).length ≤ n :=
  pigeon n (sorted_nodup (reachR_sorted ss p k)) (reachR_inN h hp k)
theorem reachR_grow (ss : List I3) (p : Int) : ∀ k, Closed ss (· ∈ reachR ss p k) ∨ k + 1 ≤ (reachR ss p k).length
  | 0 => .inr (by simp [reachR])
  | k + 1 => by
    rcases reachR_grow ss p k with h | h
    · left
      rw [reachR, fold_put_same h]
      exact h
    · by_cases e : (ss.foldl putStep (reachR ss p k)).length = (reachR ss p k).length
      · left
        have h1 := fold_put_closed ss _ e
        rw [reachR, fold_put_same h1]
        exact h1
      · right
        have := fold_put_len ss (reachR ss p k)
        rw [reachR]
        omega
theorem reachR_p (ss : List I3) (p : Int) : ∀ k, p ∈ reachR ss p k
  | 0 => by simp [reachR]
  | k + 1 => fold_put_in ss _ _ (reachR_p ss p k)

theorem reachR_is {n p : Nat} {ss : List I3} (h : StepsN n ss) (hp : p < n) : IsReach ss p (reachR ss p n) := by
  refine ⟨reachR_p _ _ _, ?_, fun C h0 hc x hx => reachR_sub h0 hc n x hx⟩
  rcases reachR_grow ss p n with h1 | h1
  · exact h1
  · have := reachR_len h hp n; omega

/-- The program: a list that is searched while it grows. -/
def addStep (v : Int) (o : List Int) (s : I3) : List Int := if s.1 == v && !(o.contains s.2.2) then o ++ [s.2.2] else o
def bfsAt (ss : List I3) (p : Int) : Nat → List Int
  | 0 => [p]
  | i + 1 => if i < (bfsAt ss p i).length then ss.foldl (addStep ((bfsAt ss p i).getD i 0)) (bfsAt ss p i) else bfsAt ss p i

theorem addStep_mem {v : Int} {o : List Int} {s : I3} {y : Int} : y ∈ addStep v o s ↔ y ∈ o ∨ (s.1 = v ∧ y = s.2.2) := by
  unfold addStep
  split
  · rename_i h
    simp at h
    simp [h.1]
  · rename_i h
    simp at h
    constructor
    · exact .inl
    · rintro (h1 | ⟨h1, rfl⟩)
      · exact h1
      · exact h h1
theorem addStep_nodup {v : Int} {o : List Int} {s : I3} (h : o.Nodup) : (addStep v o s).Nodup := by
  unfold addStep
  split
  · rename_i h1
    simp at h1
    rw [List.nodup_append]
    refine ⟨h, by simp, ?_⟩
    intro a ha b hb
    simp at hb
    subst hb
    intro e
    subst e
    exact h1.2 ha
  · exact h
theorem addStep_prefix (v : Int) (o : List Int) (s : I3) : o <+: addStep v o s := by
  unfold addStep
  split
  · exact ⟨_, rfl⟩
  · exact List.prefix_refl _
theorem fold_add_prefix (v : Int) : ∀ (ss : List I3) (o : List Int), o <+: ss.foldl (addStep v) o
  | [], o => List.prefix_refl _
  | s :: ss, o => (addStep_prefix v o s).trans (fold_add_prefix v ss _)
theorem fold_add_nodup (v : Int) : ∀ (ss : List I3) {o : List Int}, o.Nodup → (ss.foldl (addStep v) o).Nodup
  | [], _, h => h
  | s :: ss, o, h => fold_add_nodup v ss (addStep_nodup h)
theorem fold_add_mem (v : Int) : ∀ (ss : List I3) {o : List Int} {y : Int}, y ∈ ss.foldl (addStep v) o ↔ y ∈ o ∨ ∃ s ∈ ss, s.1 = v ∧ y = s.2.2
  | [], o, y => by simp
  | s :: ss, o, y => by
    rw [List.foldl_cons, fold_add_mem v ss, addStep_mem]
    simp only [List.mem_cons]
    constructor
    · rintro ((h | ⟨h1, h2⟩) | ⟨t, h1, h2⟩)
      · exact .inl h
      · exact .inr ⟨s, .inl rfl, h1, h2⟩
      · exact .inr ⟨t, .inr h1, h2⟩
    · rintro (h | ⟨t, rfl | h1, h2, h3⟩)
      · exact .inl (.inl h)
      · exact .inl (.inr ⟨h2, h3⟩)
      · exact .inr ⟨t, h1, h2, h3⟩
theorem bfs_nodup (ss : List I3) (p : Int) : ∀ i, (bfsAt ss p i).Nodup
  | 0 => by simp [bfsAt]
  | i + 1 => by
    rw [bfsAt]
    split
    · exact fold_add_nodup _ ss (bfs_nodup ss p i)
    · exact bfs_nodup ss p i
theorem bfs_prefix (ss : List I3) (p : Int) (i : Nat) : bfsAt ss p i <+: bfsAt ss p (i + 1) := by
  rw [bfsAt]
  split
  · exact fold_add_prefix _ _ _
  · exact List.prefix_refl _
theorem getD_mem {l : List Int} {j : Nat} (h : j < l.length) : l.getD j 0 ∈ l := by
  simp [List.getD, h]
theorem bfs_sub {ss : List I3} {p : Int} {C : Int → Prop} (h0 : C p) (hc : Closed ss C) : ∀ i, ∀ x ∈ bfsAt ss p i, C x
  | 0, x, h => by simp [bfsAt] at h; rw [h]; exact h0
  | i + 1, x, h => by
    rw [bfsAt] at h
    split at h
    · rename_i hl
      rcases (fold_add_mem _ ss).1 h with h1 | ⟨s, h1, h2, rfl⟩
      · exact bfs_sub h0 hc i x h1
      · exact hc s h1 (bfs_sub h0 hc i _ (by rw [h2]; exact getD_mem hl))
    · exact bfs_sub h0 hc i x h
theorem prefix_getD {a b : List Int} (h : a <+: b) {j : Nat} (hj : j < a.length) : b.getD j 0 = a.getD j 0 := by
  obtain ⟨c, rfl⟩ := h
  simp [List.getD, List.getElem?_append_left hj]
/-- What stands below i has all its next ones in the list. -/
theorem bfs_done (ss : List I3) (p : Int) : ∀ i, i ≤ (bfsAt ss p i).length → ∀ j, j < i → ∀ s ∈ ss, s.1 = (bfsAt ss p i).getD j 0 → s.2.2 ∈ bfsAt ss p i
  | 0, _, j, hj => by omega
  | i + 1, hi, j, hj => by
    intro s hs e
    have hpre := bfs_prefix ss p i
    have hl := hpre.length_le
    by_cases h : i < (bfsAt ss p i).length
    · rw [prefix_getD hpre (by omega)] at e
      by_cases hji : j = i
      · subst hji
        rw [bfsAt, if_pos h, fold_add_mem]
        exact .inr ⟨s, hs, e, rfl⟩
      · have := bfs_done ss p i (by omega) j (by omega) s hs e
        exact hpre.subset this
    · rw [bfsAt, if_neg h] at hi
      omega
theorem bfs_p (ss : List I3) (p : Int) : ∀ i, p ∈ bfsAt ss p i
  | 0 => by simp [bfsAt]
  | i + 1 => (bfs_prefix ss p i).subset (bfs_p ss p i)
theorem bfs_inN {n p : Nat} {ss : List I3} (h : StepsN n ss) (hp : p < n) (k : Nat) : InN n (bfsAt ss p k) :=
  fun x hx => bfs_sub (C := fun x => ∃ i : Nat, x = (i : Int) ∧ i < n) ⟨p, rfl, hp⟩ (stepsN_closed h) k x hx
theorem bfs_len {n p : Nat} {ss : List I3} (h : StepsN n ss) (hp : p < n) (k : Nat) : (bfsAt ss p k).length ≤ n :=
  pigeon n (bfs_nodup ss p k) (bfs_inN h hp k)
theorem bfs_is {p : Nat} {ss : List I3} {i : Nat} (hi : i = (bfsAt ss p i).length) : IsReach ss p (bfsAt ss p i) := by
  refine ⟨bfs_p _ _ _, fun s hs hm => ?_, fun C h0 hc x hx => bfs_sub h0 hc i x hx⟩
  obtain ⟨j, hj, e⟩ := List.getElem_of_mem hm
  exact bfs_done ss p i (by omega) j (by omega) s hs (by simp [List.getD, hj, e])

theorem reach_sort {n p : Nat} {ss : List I3} {i : Nat} {o : List Int} (h : StepsN n ss) (hp : p < n) (hi : i = (bfsAt ss p i).length) (hs : o.Pairwise (· ≤ ·)) (ho : o.Perm (bfsAt ss p i)) : o = reachR ss p n := by
  have hd : o.Nodup := ho.nodup_iff.2 (bfs_nodup ss p i)
  have hst : o.Pairwise (· < ·) := List.Pairwise.imp₂ (fun a b h1 h2 => by omega) hs hd
  exact sorted_eq hst (reachR_sorted ss p n) fun x => ho.mem_iff.trans ((bfs_is hi).same (reachR_is h hp) x)

end Go.Proofs.YtdgnhfhaaghoaaaGreatDoor
