/- The states that are reached from a state. Plain law: the program's search and the reference's rounds give the same list. -/
import Derived.Test.YtdgnhfhaaghoaaaGreatDoorJ13
set_option linter.unusedVariables false
namespace Go.Proofs.YtdgnhfhaaghoaaaGreatDoor

/-- A set of states that steps do not leave. -/
def Closed (ss : List I3) (C : Int → Prop) : Prop := ∀ s ∈ ss, C s.1 → C s.2.2

/-- The list has p, steps do not leave it, and each such set has all of it. -/
def IsReach (ss : List I3) (p : Int) (o : List Int) : Prop := p ∈ o ∧ Closed ss (· ∈ o) ∧ ∀ C : Int → Prop, C p → Closed ss C → ∀ x ∈ o, C x

theorem IsReach.same {ss : List I3} {p : Int} {a b : List Int} (ha : IsReach ss p a) (hb : IsReach ss p b) (x : Int) : x ∈ a ↔ x ∈ b :=
  ⟨fun h => ha.2.2 _ hb.1 hb.2.1 x h, fun h => hb.2.2 _ ha.1 ha.2.1 x h⟩

/-- The reference's rounds. -/
def putStep (o : List Int) (s : I3) : List Int := if o.contains s.1 then putI o s.2.2 else o
def reachR (ss : List I3) (p : Int) : Nat → List Int
  | 0 => [p]
  | k + 1 => ss.foldl putStep (reachR ss p k)

theorem putStep_mem {o : List Int} {s : I3} {y : Int} : y ∈ putStep o s ↔ y ∈ o ∨ (s.1 ∈ o ∧ y = s.2.2) := by
  unfold putStep
  split
  · rename_i h
    rw [putI_mem]
    have : s.1 ∈ o := by simpa using h
    simp [this]
  · rename_i h
    have : s.1 ∉ o := by simpa using h
    simp [this]
theorem putStep_len {o : List Int} {s : I3} : o.length ≤ (putStep o s).length := by
  unfold putStep
  split
  · rw [putI_len]; split <;> omega
  · omega
theorem putStep_grow {o : List Int} {s : I3} (h : ¬ (s.1 ∈ o → s.2.2 ∈ o)) : o.length < (putStep o s).length := by
  have h1 : s.1 ∈ o := Classical.byContradiction fun k => h fun k' => absurd k' k
  have h2 : s.2.2 ∉ o := fun k => h fun _ => k
  unfold putStep
  rw [if_pos (by simpa using h1), putI_len, if_neg (by simpa using h2)]
  omega
theorem putStep_same {o : List Int} {s : I3} (h : s.1 ∈ o → s.2.2 ∈ o) : putStep o s = o := by
  unfold putStep
  split
  · rename_i h1
    unfold putI
    rw [if_pos (by simpa using h (by simpa using h1))]
  · rfl
theorem fold_put_len : ∀ (ss : List I3) (o : List Int), o.length ≤ (ss.foldl putStep o).length
  | [], _ => Nat.le_refl _
  | s :: ss, o => Nat.le_trans putStep_len (fold_put_len ss _)
theorem fold_put_closed : ∀ (ss : List I3) (o : List Int), (ss.foldl putStep o).length = o.length → Closed ss (· ∈ o)
  | [], _, _ => fun s h => by simp at h
  | s :: ss, o, h => by
    rw [List.foldl_cons] at h
    have h1 := fold_put_len ss (putStep o s)
    have h2 := putStep_len (o := o) (s := s)
    have hs : s.1 ∈ o → s.2.2 ∈ o := Classical.byContradiction fun k => by have := putStep_grow k; omega
    rw [putStep_same hs] at h
    intro t ht
    rcases List.mem_cons.1 ht with rfl | ht
    · exact hs
    · exact fold_put_closed ss o h t ht
theorem fold_put_same : ∀ {ss : List I3} {o : List Int}, Closed ss (· ∈ o) → ss.foldl putStep o = o
  | [], _, _ => rfl
  | s :: ss, o, h => by
    rw [List.foldl_cons, putStep_same (h s (by simp))]
    exact fold_put_same fun t ht => h t (List.mem_cons_of_mem _ ht)
theorem fold_put_sub {C : Int → Prop} : ∀ {ss : List I3} {o : List Int}, Closed ss C → (∀ x ∈ o, C x) → ∀ x ∈ ss.foldl putStep o, C x
  | [], _, _, h => h
  | s :: ss, o, hc, h => by
    rw [List.foldl_cons]
    refine fold_put_sub (fun t ht => hc t (List.mem_cons_of_mem _ ht)) fun x hx => ?_
    rcases putStep_mem.1 hx with h1 | ⟨h1, rfl⟩
    · exact h x h1
    · exact hc s (by simp) (h _ h1)
theorem fold_put_in : ∀ (ss : List I3) (o : List Int), ∀ x ∈ o, x ∈ ss.foldl putStep o
  | [], _, _, h => h
  | s :: ss, o, x, h => by
    rw [List.foldl_cons]
    exact fold_put_in ss _ x (putStep_mem.2 (.inl h))
theorem fold_put_sorted : ∀ (ss : List I3) {o : List Int}, o.Pairwise (· < ·) → (ss.foldl putStep o).Pairwise (· < ·)
  | [], _, h => h
  | s :: ss, o, h => by
    rw [List.foldl_cons]
    refine fold_put_sorted ss ?_
    unfold putStep
    split
    · exact putI_sorted _ h
    · exact h

/-- All numbers in steps are states. -/
def StepsN (n : Nat) (ss : List I3) : Prop := ∀ s ∈ ss, ∃ i j : Nat, s.1 = (i : Int) ∧ s.2.2 = (j : Int) ∧ i < n ∧ j < n

theorem reachR_sorted (ss : List I3) (p : Int) : ∀ k, (reachR ss p k).Pairwise (· < ·)
  | 0 => List.pairwise_singleton _ _
  | k + 1 => fold_put_sorted ss (reachR_sorted ss p k)
theorem reachR_sub {ss : List I3} {p : Int} {C : Int → Prop} (h0 : C p) (hc : Closed ss C) : ∀ k, ∀ x ∈ reachR ss p k, C x
  | 0, x, h => by simp [reachR] at h; rw [h]; exact h0
  | k + 1, x, h => fold_put_sub hc (reachR_sub h0 hc k) x h
theorem stepsN_closed {n : Nat} {ss : List I3} (h : StepsN n ss) : Closed ss fun x => ∃ i : Nat, x = (i : Int) ∧ i < n := fun s hs _ => by
  obtain ⟨i, j, _, h2, _, h4⟩ := h s hs
  exact ⟨j, h2, h4⟩
theorem reachR_inN {n p : Nat} {ss : List I3} (h : StepsN n ss) (hp : p < n) (k : Nat) : InN n (reachR ss p k) :=
  fun x hx => reachR_sub (C := fun x => ∃ i : Nat, x = (i : Int) ∧ i < n) ⟨p, rfl, hp⟩ (stepsN_closed h) k x hx
theorem reachR_len {n p : Nat} {ss : List I3} (h : StepsN n ss) (hp : p < n) (k : Nat) : (reachR ss p k).length ≤ n :=
  pigeon n (sorted_nodup (reachR_sorted ss p k)) (reachR_inN h hp k)
theorem reachR_grow (ss : List I3) (p : Int) : ∀ k, Closed ss (· ∈ reachR ss p k) ∨ k + 1 ≤ (reachR ss p k).length
  | 0 => .inr (by simp [reachR])
  | k + 1 => by
    rcases reachR_grow ss p k with h | h
    · left
      rw [reachR, fold_put_same h]
      exact h
    · by_cases e : (ss.foldl putStep (reachR ss p k)).length = (reachR ss p k).length
      · left
        have h1 := fold_put_closed ss _ e
        rw [reachR, fold_put_same h1]
        exact h1
      · right
        have := fold_put_len ss (reachR ss p k)
        rw [reachR]
        omega
theorem reachR_p (ss : List I3) (p : Int) : ∀ k, p ∈ reachR ss p k
  | 0 => by simp [reachR]
  | k + 1 => fold_put_in ss _ _ (reachR_p ss p k)

theorem reachR_is {n p : Nat} {ss : List I3} (h : StepsN n ss) (hp : p < n) : IsReach ss p (reachR ss p n) := by
  refine ⟨reachR_p _ _ _, ?_, fun C h0 hc x hx => reachR_sub h0 hc n x hx⟩
  rcases reachR_grow ss p n with h1 | h1
  · exact h1
  · have := reachR_len h hp n; omega

/-- The program: a list that is searched while it grows. -/
def addStep (v : Int) (o : List Int) (s : I3) : List Int := if s.1 == v && !(o.contains s.2.2) then o ++ [s.2.2] else o
def bfsAt (ss : List I3) (p : Int) : Nat → List Int
  | 0 => [p]
  | i + 1 => if i < (bfsAt ss p i).length then ss.foldl (addStep ((bfsAt ss p i).getD i 0)) (bfsAt ss p i) else bfsAt ss p i

theorem addStep_mem {v : Int} {o : List Int} {s : I3} {y : Int} : y ∈ addStep v o s ↔ y ∈ o ∨ (s.1 = v ∧ y = s.2.2) := by
  unfold addStep
  split
  · rename_i h
    simp at h
    simp [h.1]
  · rename_i h
    simp at h
    constructor
    · exact .inl
    · rintro (h1 | ⟨h1, rfl⟩)
      · exact h1
      · exact h h1
theorem addStep_nodup {v : Int} {o : List Int} {s : I3} (h : o.Nodup) : (addStep v o s).Nodup := by
  unfold addStep
  split
  · rename_i h1
    simp at h1
    rw [List.nodup_append]
    refine ⟨h, by simp, ?_⟩
    intro a ha b hb
    simp at hb
    subst hb
    intro e
    subst e
    exact h1.2 ha
  · exact h
theorem addStep_prefix (v : Int) (o : List Int) (s : I3) : o <+: addStep v o s := by
  unfold addStep
  split
  · exact ⟨_, rfl⟩
  · exact List.prefix_refl _
theorem fold_add_prefix (v : Int) : ∀ (ss : List I3) (o : List Int), o <+: ss.foldl (addStep v) o
  | [], o => List.prefix_refl _
  | s :: ss, o => (addStep_prefix v o s).trans (fold_add_prefix v ss _)
theorem fold_add_nodup (v : Int) : ∀ (ss : List I3) {o : List Int}, o.Nodup → (ss.foldl (addStep v) o).Nodup
  | [], _, h => h
  | s :: ss, o, h => fold_add_nodup v ss (addStep_nodup h)
theorem fold_add_mem (v : Int) : ∀ (ss : List I3) {o : List Int} {y : Int}, y ∈ ss.foldl (addStep v) o ↔ y ∈ o ∨ ∃ s ∈ ss, s.1 = v ∧ y = s.2.2
  | [], o, y => by simp
  | s :: ss, o, y => by
    rw [List.foldl_cons, fold_add_mem v ss, addStep_mem]
    simp only [List.mem_cons]
    constructor
    · rintro ((h | ⟨h1, h2⟩) | ⟨t, h1, h2⟩)
      · exact .inl h
      · exact .inr ⟨s, .inl rfl, h1, h2⟩
      · exact .inr ⟨t, .inr h1, h2⟩
    · rintro (h | ⟨t, rfl | h1, h2, h3⟩)
      · exact .inl (.inl h)
      · exact .inl (.inr ⟨h2, h3⟩)
      · exact .inr ⟨t, h1, h2, h3⟩
theorem bfs_nodup (ss : List I3) (p : Int) : ∀ i, (bfsAt ss p i).Nodup
  | 0 => by simp [bfsAt]
  | i + 1 => by
    rw [bfsAt]
    split
    · exact fold_add_nodup _ ss (bfs_nodup ss p i)
    · exact bfs_nodup ss p i
theorem bfs_prefix (ss : List I3) (p : Int) (i : Nat) : bfsAt ss p i <+: bfsAt ss p (i + 1) := by
  rw [bfsAt]
  split
  · exact fold_add_prefix _ _ _
  · exact List.prefix_refl _
theorem getD_mem {l : List Int} {j : Nat} (h : j < l.length) : l.getD j 0 ∈ l := by
  simp [List.getD, h]
theorem bfs_sub {ss : List I3} {p : Int} {C : Int → Prop} (h0 : C p) (hc : Closed ss C) : ∀ i, ∀ x ∈ bfsAt ss p i, C x
  | 0, x, h => by simp [bfsAt] at h; rw [h]; exact h0
  | i + 1, x, h => by
    rw [bfsAt] at h
    split at h
    · rename_i hl
      rcases (fold_add_mem _ ss).1 h with h1 | ⟨s, h1, h2, rfl⟩
      · exact bfs_sub h0 hc i x h1
      · exact hc s h1 (bfs_sub h0 hc i _ (by rw [h2]; exact getD_mem hl))
    · exact bfs_sub h0 hc i x h
theorem prefix_getD {a b : List Int} (h : a <+: b) {j : Nat} (hj : j < a.length) : b.getD j 0 = a.getD j 0 := by
  obtain ⟨c, rfl⟩ := h
  simp [List.getD, List.getElem?_append_left hj]
/-- What stands below i has all its next ones in the list. -/
theorem bfs_done (ss : List I3) (p : Int) : ∀ i, i ≤ (bfsAt ss p i).length → ∀ j, j < i → ∀ s ∈ ss, s.1 = (bfsAt ss p i).getD j 0 → s.2.2 ∈ bfsAt ss p i
  | 0, _, j, hj => by omega
  | i + 1, hi, j, hj => by
    intro s hs e
    have hpre := bfs_prefix ss p i
    have hl := hpre.length_le
    by_cases h : i < (bfsAt ss p i).length
    · rw [prefix_getD hpre (by omega)] at e
      by_cases hji : j = i
      · subst hji
        rw [bfsAt, if_pos h, fold_add_mem]
        exact .inr ⟨s, hs, e, rfl⟩
      · have := bfs_done ss p i (by omega) j (by omega) s hs e
        exact hpre.subset this
    · rw [bfsAt, if_neg h] at hi
      omega
theorem bfs_p (ss : List I3) (p : Int) : ∀ i, p ∈ bfsAt ss p i
  | 0 => by simp [bfsAt]
  | i + 1 => (bfs_prefix ss p i).subset (bfs_p ss p i)
theorem bfs_inN {n p : Nat} {ss : List I3} (h : StepsN n ss) (hp : p < n) (k : Nat) : InN n (bfsAt ss p k) :=
  fun x hx => bfs_sub (C := fun x => ∃ i : Nat, x = (i : Int) ∧ i < n) ⟨p, rfl, hp⟩ (stepsN_closed h) k x hx
theorem bfs_len {n p : Nat} {ss : List I3} (h : StepsN n ss) (hp : p < n) (k : Nat) : (bfsAt ss p k).length ≤ n :=
  pigeon n (bfs_nodup ss p k) (bfs_inN h hp k)
theorem bfs_is {p : Nat} {ss : List I3} {i : Nat} (hi : i = (bfsAt ss p i).length) : IsReach ss p (bfsAt ss p i) := by
  refine ⟨bfs_p _ _ _, fun s hs hm => ?_, fun C h0 hc x hx => bfs_sub h0 hc i x hx⟩
  obtain ⟨j, hj, e⟩ := List.getElem_of_mem hm
  exact bfs_done ss p i (by omega) j (by omega) s hs (by simp [List.getD, hj, e])

theorem reach_sort {n p : Nat} {ss : List I3} {i : Nat} {o : List Int} (h : StepsN n ss) (hp : p < n) (hi : i = (bfsAt ss p i).length) (hs : o.Pairwise (· ≤ ·)) (ho : o.Perm (bfsAt ss p i)) : o = reachR ss p n := by
  have hd : o.Nodup := ho.nodup_iff.2 (bfs_nodup ss p i)
  have hst : o.Pairwise (· < ·) := List.Pairwise.imp₂ (fun a b h1 h2 => by omega) hs hd
  exact sorted_eq hst (reachR_sorted ss p n) fun x => ho.mem_iff.trans ((bfs_is hi).same (reachR_is h hp) x)

end Go.Proofs.YtdgnhfhaaghoaaaGreatDoor
