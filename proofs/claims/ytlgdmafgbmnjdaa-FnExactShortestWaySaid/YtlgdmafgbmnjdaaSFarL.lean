/- Systems: the fewest steps to goals. Plain law: the program's search and the reference's rounds give the same numbers. -/
import Derived.Test.YtlgdmafgbmnjdaaSRankL
set_option linter.unusedVariables false
namespace Go.Proofs.Ytlgdmafgbmnjdaa

section
variable (n : Nat) (ss : List I3) (g : List Int)

/-- What makes numbers the fewest steps to goals. -/
structure FarOK (d : List Int) : Prop where
  len : d.length = n
  low : ∀ i : Nat, -1 ≤ d.getD i 0
  goal : ∀ i : Nat, i < n → (i : Int) ∈ g → d.getD i 0 = 0
  zero : ∀ i : Nat, i < n → d.getD i 0 = 0 → (i : Int) ∈ g
  step : ∀ i : Nat, i < n → 0 < d.getD i 0 → ∃ s ∈ ss, s.1 = (i : Int) ∧ atI d s.2.2 = d.getD i 0 - 1
  tight : ∀ s ∈ ss, 0 ≤ atI d s.2.2 → 0 ≤ atI d s.1 ∧ atI d s.1 ≤ atI d s.2.2 + 1

/-- What the reference's rounds keep true. -/
structure FarR (d : List Int) : Prop where
  len : d.length = n
  low : ∀ i : Nat, -1 ≤ d.getD i 0
  goal : ∀ i : Nat, i < n → (i : Int) ∈ g → d.getD i 0 = 0
  zero : ∀ i : Nat, i < n → d.getD i 0 = 0 → (i : Int) ∈ g
  step : ∀ i : Nat, i < n → 0 < d.getD i 0 → ∃ s ∈ ss, s.1 = (i : Int) ∧ 0 ≤ atI d s.2.2 ∧ atI d s.2.2 ≤ d.getD i 0 - 1
end

section
variable {n : Nat} {ss : List I3} {g : List Int} {d : List Int}

theorem atI_nat (o : List Int) (j : Nat) : atI o (j : Int) = o.getD j 0 := by unfold atI; rw [Int.toNat_natCast]

theorem far_le {c : List Int} (hs : StepsN n ss) (hd : FarR n ss g d) (hc : FarOK n ss g c) : ∀ (k : Nat) (i : Nat), i < n → d.getD i 0 = (k : Int) → 0 ≤ c.getD i 0 ∧ c.getD i 0 ≤ k := by
  intro k
  induction k using Nat.strongRecOn with
  | ind k ih =>
    intro i hi e
    by_cases h0 : k = 0
    · subst h0
      rw [hc.goal i hi (hd.zero i hi e)]
      omega
    · obtain ⟨s, h1, h2, h3, h4⟩ := hd.step i hi (by omega)
      obtain ⟨a, b, ha, hb, han, hbn⟩ := hs s h1
      rw [hb, atI_nat] at h3 h4
      obtain ⟨q, hq⟩ := Int.eq_ofNat_of_zero_le h3
      have := ih q (by omega) b hbn hq
      have ht := hc.tight s h1 (by rw [hb, atI_nat]; exact this.1)
      rw [h2, hb, atI_nat, atI_nat] at ht
      omega

theorem FarOK.r (h : FarOK n ss g d) : FarR n ss g d := ⟨h.len, h.low, h.goal, h.zero, fun i hi h0 => by
  obtain ⟨s, h1, h2, h3⟩ := h.step i hi h0
  exact ⟨s, h1, h2, by omega, by omega⟩⟩

theorem far_unique {c : List Int} (hs : StepsN n ss) (hd : FarOK n ss g d) (hc : FarOK n ss g c) : d = c := by
  have hl : d.length = c.length := by rw [hd.len, hc.len]
  apply List.ext_getElem hl
  intro i h1 h2
  have hi : i < n := by have := hd.len; omega
  have ea : d[i] = d.getD i 0 := by simp [List.getD, h1]
  have eb : c[i] = c.getD i 0 := by simp [List.getD, h2]
  rw [ea, eb]
  have l1 := hd.low i
  have l2 := hc.low i
  by_cases h0 : 0 ≤ d.getD i 0
  · obtain ⟨k, hk⟩ := Int.eq_ofNat_of_zero_le h0
    have a := far_le hs hd.r hc k i hi hk
    obtain ⟨q, hq⟩ := Int.eq_ofNat_of_zero_le a.1
    have b := far_le hs hc.r hd q i hi hq
    omega
  · by_cases h3 : 0 ≤ c.getD i 0
    · obtain ⟨q, hq⟩ := Int.eq_ofNat_of_zero_le h3
      have b := far_le hs hc.r hd q i hi hq
      omega
    · omega

/-- The program's search: the numbers so far, and all states that have stood in the queue. -/
def farStep (u : Int) (x : List Int × List Int) (s : I3) : List Int × List Int :=
  if s.2.2 == u && decide (atI x.1 s.1 < 0) then (x.1.set s.1.toNat (atI x.1 s.2.2 + 1), x.2 ++ [s.1]) else x
def farAt (n : Nat) (ss : List I3) (g : List Int) : Nat → List Int × List Int
  | 0 => (rkInit n g, g)
  | i + 1 => if i < (farAt n ss g i).2.length then ss.foldl (farStep ((farAt n ss g i).2.getD i 0)) (farAt n ss g i) else farAt n ss g i

/-- What holds while state u is at the queue's head, which is at place i. -/
structure FarIn (n : Nat) (ss : List I3) (g : List Int) (i : Nat) (top : Int) (x : List Int × List Int) : Prop where
  len : x.1.length = n
  low : ∀ i : Nat, -1 ≤ x.1.getD i 0
  goal : ∀ i : Nat, i < n → (i : Int) ∈ g → x.1.getD i 0 = 0
  zero : ∀ i : Nat, i < n → x.1.getD i 0 = 0 → (i : Int) ∈ g
  step : ∀ i : Nat, i < n → 0 < x.1.getD i 0 → ∃ s ∈ ss, s.1 = (i : Int) ∧ atI x.1 s.2.2 = x.1.getD i 0 - 1
  nodup : x.2.Nodup
  inN : InN n x.2
  mem : ∀ i : Nat, i < n → ((i : Int) ∈ x.2 ↔ 0 ≤ x.1.getD i 0)
  order : x.2.Pairwise fun a b => atI x.1 a ≤ atI x.1 b
  most : ∀ a ∈ x.2, atI x.1 a ≤ top + 1
  done : ∀ j : Nat, j < i → j < x.2.length → ∀ s ∈ ss, s.2.2 = x.2.getD j 0 → 0 ≤ atI x.1 s.1 ∧ atI x.1 s.1 ≤ atI x.1 s.2.2 + 1

theorem far_put {i u : Nat} {x : List Int × List Int} {s : I3} (hs : StepsN n ss) (hm : s ∈ ss) (h : FarIn n ss g i (atI x.1 (u : Int)) x) (hu : (u : Int) ∈ x.2) (hun : u < n) (hil : i ≤ x.2.length) :
    FarIn n ss g i (atI (farStep u x s).1 (u : Int)) (farStep u x s) ∧ (x.2 <+: (farStep u x s).2) ∧ (∀ k : Nat, 0 ≤ x.1.getD k 0 → (farStep u x s).1.getD k 0 = x.1.getD k 0) ∧ (s.2.2 = (u : Int) → 0 ≤ atI (farStep u x s).1 s.1) := by
  obtain ⟨a, b, ha, hb, han, hbn⟩ := hs s hm
  unfold farStep
  by_cases hc : (s.2.2 == (u : Int) && decide (atI x.1 s.1 < 0)) = true
  · rw [if_pos hc]
    simp only [Bool.and_eq_true, beq_iff_eq, decide_eq_true_eq] at hc
    obtain ⟨h1, h2⟩ := hc
    rw [ha, atI_nat] at h2
    have hbu : b = u := by omega
    subst hbu
    have hub := (h.mem b hbn).1 hu
    have e : (x.1.set s.1.toNat (atI x.1 s.2.2 + 1), x.2 ++ [s.1]) = (x.1.set a (x.1.getD b 0 + 1), x.2 ++ [(a : Int)]) := by
      rw [hb, ha, Int.toNat_natCast, atI_nat]
    rw [e]
    clear e
    dsimp only
    have hlen := h.len
    have hag : (a : Int) ∉ x.2 := fun k => by have := (h.mem a han).1 k; omega
    have hag' : (a : Int) ∉ g := fun k => by have := h.goal a han k; omega
    have hkeep : ∀ k : Nat, 0 ≤ x.1.getD k 0 → (x.1.set a (x.1.getD b 0 + 1)).getD k 0 = x.1.getD k 0 := by
      intro k hk
      rw [getD_set _ _ _ _ (by omega), if_neg (by intro e; subst e; omega)]
    have hka : ∀ y ∈ x.2, atI (x.1.set a (x.1.getD b 0 + 1)) y = atI x.1 y := by
      intro y hy
      obtain ⟨k, rfl, hk⟩ := h.inN y hy
      rw [atI_nat, atI_nat]
      exact hkeep k ((h.mem k hk).1 hy)
    have hself : (x.1.set a (x.1.getD b 0 + 1)).getD a 0 = x.1.getD b 0 + 1 := by rw [getD_set _ _ _ _ (by omega), if_pos rfl]
    have htop : atI (x.1.set a (x.1.getD b 0 + 1)) (b : Int) = x.1.getD b 0 := by rw [atI_nat]; exact hkeep b hub
    have hmost : ∀ y ∈ x.2, atI x.1 y ≤ x.1.getD b 0 + 1 := fun y hy => by have := h.most y hy; rw [atI_nat] at this; exact this
    refine ⟨⟨by simpa using hlen, ?_, ?_, ?_, ?_, ?_, ?_, ?_, ?_, ?_, ?_⟩, ⟨_, rfl⟩, hkeep, fun _ => by rw [ha, atI_nat, hself]; omega⟩
    · intro k
      rw [getD_set _ _ _ _ (by omega)]
      split
      · omega
      · exact h.low k
    · intro k hk hg
      rw [getD_set _ _ _ _ (by omega), if_neg (by intro e; subst e; exact hag' hg)]
      exact h.goal k hk hg
    · intro k hk
      rw [getD_set _ _ _ _ (by omega)]
      split
      · intro e; omega
      · exact h.zero k hk
    · intro k hk
      rw [getD_set _ _ _ _ (by omega)]
      split
      · rename_i e
        subst e
        intro _
        refine ⟨s, hm, ha, ?_⟩
        rw [hb, htop]
        omega
      · intro h0
        obtain ⟨t, t1, t2, t3⟩ := h.step k hk h0
        obtain ⟨a', b', _, hb', _, hbn'⟩ := hs t t1
        refine ⟨t, t1, t2, ?_⟩
        rw [hb', atI_nat] at t3 ⊢
        rw [hkeep b' (by omega)]
        exact t3
    · rw [List.nodup_append]
      refine ⟨h.nodup, by simp, ?_⟩
      intro y hy z hz
      simp at hz
      subst hz
      intro e
      subst e
      exact hag hy
    · intro y hy
      rcases List.mem_append.1 hy with hy | hy
      · exact h.inN y hy
      · simp at hy; exact ⟨a, hy, han⟩
    · intro k hk
      rw [List.mem_append, getD_set _ _ _ _ (by omega)]
      split
      · rename_i e
        subst e
        exact ⟨fun _ => by omega, fun _ => .inr (by simp)⟩
      · rename_i e
        rw [h.mem k hk]
        simp
        intro e2
        omega
    · rw [List.pairwise_append]
      refine ⟨h.order.imp_of_mem ?_, by simp, ?_⟩
      · intro y z hy hz hyz
        rw [hka y hy, hka z hz]
        exact hyz
      · intro y hy z hz
        simp at hz
        subst hz
        rw [hka y hy, atI_nat, hself]
        exact hmost y hy
    · intro y hy
      rw [htop]
      rcases List.mem_append.1 hy with hy | hy
      · rw [hka y hy]; exact hmost y hy
      · simp at hy; subst hy; rw [atI_nat, hself]; omega
    · intro j hj hjl t ht e
      by_cases hjx : j < x.2.length
      · have e2 : t.2.2 = x.2.getD j 0 := by
          rw [e]
          simp [List.getD, List.getElem?_append_left hjx]
        have hd := h.done j hj hjx t ht e2
        obtain ⟨a', b', ha', hb', han', hbn'⟩ := hs t ht
        have hin : t.2.2 ∈ x.2 := by rw [e2]; exact getD_mem hjx
        rw [ha', atI_nat] at hd ⊢
        rw [hkeep a' hd.1, hka _ hin]
        exact hd
      · exfalso
        simp at hjl
        omega
  · rw [if_neg hc]
    refine ⟨h, List.prefix_refl _, fun _ _ => rfl, fun e => ?_⟩
    simp only [Bool.and_eq_true, beq_iff_eq, decide_eq_true_eq, not_and] at hc
    have := hc e
    omega

theorem far_fold {i u : Nat} (hs : StepsN n ss) (hun : u < n) : ∀ (ts : List I3), (∀ t ∈ ts, t ∈ ss) → ∀ (x : List Int × List Int), FarIn n ss g i (atI x.1 (u : Int)) x → (u : Int) ∈ x.2 → i ≤ x.2.length →
    FarIn n ss g i (atI (ts.foldl (farStep u) x).1 (u : Int)) (ts.foldl (farStep u) x) ∧ (x.2 <+: (ts.foldl (farStep u) x).2) ∧ (∀ k : Nat, 0 ≤ x.1.getD k 0 → (ts.foldl (farStep u) x).1.getD k 0 = x.1.getD k 0) ∧ (∀ t ∈ ts, t.2.2 = (u : Int) → 0 ≤ atI (ts.foldl (farStep u) x).1 t.1)
  | [], _, x, h, hu, _ => ⟨h, List.prefix_refl _, fun _ _ => rfl, fun t ht => by simp at ht⟩
  | s :: ts, hsub, x, h, hu, hil => by
    obtain ⟨h1, h2, h3, h4⟩ := far_put hs (hsub s (by simp)) h hu hun hil
    obtain ⟨k1, k2, k3, k4⟩ := far_fold hs hun ts (fun t ht => hsub t (List.mem_cons_of_mem _ ht)) _ h1 (h2.subset hu) (Nat.le_trans hil h2.length_le)
    rw [List.foldl_cons]
    refine ⟨k1, h2.trans k2, fun k hk => ?_, fun t ht e => ?_⟩
    · rw [k3 k (by rw [h3 k hk]; exact hk), h3 k hk]
    · rcases List.mem_cons.1 ht with rfl | ht
      · obtain ⟨a, b, ha, _, _, _⟩ := hs t (hsub t (by simp))
        have := h4 e
        rw [ha, atI_nat] at this ⊢
        rw [k3 a this]
        exact this
      · exact k4 t ht e

theorem far_start (hg : g.Pairwise (· < ·)) (hn : InN n g) : FarIn n ss g 0 0 (farAt n ss g 0) := by
  have hr : RK n ss g (rkInit n g) := rk_init
  have hz : ∀ i : Nat, i < n → 0 ≤ (rkInit n g).getD i 0 → (i : Int) ∈ g := by
    intro i hi h
    rw [rkInit_at hi] at h
    split at h
    · rename_i e; simpa [hasI] using e
    · omega
  have h0 : ∀ y ∈ g, atI (rkInit n g) y = 0 := by
    intro y hy
    obtain ⟨k, rfl, hk⟩ := hn y hy
    rw [atI_nat]
    exact hr.goal k hk hy
  refine ⟨hr.len, hr.low, hr.goal, fun i hi e => hz i hi (by unfold farAt at e; dsimp only at e; omega), ?_, sorted_nodup hg, hn, ?_, ?_, ?_, ?_⟩
  · intro i hi h
    have h : 0 < (rkInit n g).getD i 0 := h
    have := hr.goal i hi (hz i hi (by omega))
    omega
  · intro i hi
    constructor
    · intro h; have := hr.goal i hi h; show 0 ≤ (rkInit n g).getD i 0; omega
    · exact hz i hi
  · refine List.Pairwise.imp_of_mem ?_ hg
    intro a b ha hb _
    show atI (rkInit n g) a ≤ atI (rkInit n g) b
    rw [h0 a ha, h0 b hb]
    omega
  · intro a ha
    have := h0 a ha
    show atI (rkInit n g) a ≤ _
    omega
  · intro j hj; omega

/-- At each place of the queue. -/
theorem far_at (hs : StepsN n ss) (hg : g.Pairwise (· < ·)) (hn : InN n g) : ∀ i, i ≤ (farAt n ss g i).2.length → ∃ top, FarIn n ss g i top (farAt n ss g i) ∧ (i < (farAt n ss g i).2.length → top = atI (farAt n ss g i).1 ((farAt n ss g i).2.getD i 0))
  | 0, _ => by
    have h := far_start (ss := ss) hg hn
    by_cases hl : 0 < (farAt n ss g 0).2.length
    · refine ⟨_, ⟨h.len, h.low, h.goal, h.zero, h.step, h.nodup, h.inN, h.mem, h.order, fun a ha => ?_, h.done⟩, fun _ => rfl⟩
      have h0 := getD_mem hl
      obtain ⟨k, e, hk⟩ := h.inN _ h0
      have h1 := (h.mem k hk).1 (by rw [← e]; exact h0)
      have h2 := h.most a ha
      have h3 : (farAt n ss g 0).1.getD k 0 = 0 := by
        have hz := h.goal k hk (by rw [← e]; exact h0)
        exact hz
      rw [e, atI_nat, h3]
      exact h2
    · exact ⟨0, h, fun k => absurd k hl⟩
  | i + 1, hi => by
    by_cases hl : i < (farAt n ss g i).2.length
    · obtain ⟨top, h, ht⟩ := far_at hs hg hn i (by omega)
      have ht := ht hl
      subst ht
      have hu := getD_mem hl
      obtain ⟨u, e, hun⟩ := h.inN _ hu
      have hst : farAt n ss g (i + 1) = ss.foldl (farStep (u : Int)) (farAt n ss g i) := by
        rw [farAt, if_pos hl, e]
      rw [e] at h hu
      obtain ⟨k1, k2, k3, k4⟩ := far_fold hs hun ss (fun t ht => ht) _ h hu (by omega)
      rw [← hst] at k1 k2 k3 k4
      have hui : (farAt n ss g (i + 1)).2.getD i 0 = (u : Int) := by rw [prefix_getD k2 hl, e]
      have hlen := k2.length_le
      have hdone : ∀ j : Nat, j < i + 1 → j < (farAt n ss g (i + 1)).2.length → ∀ s ∈ ss, s.2.2 = (farAt n ss g (i + 1)).2.getD j 0 → 0 ≤ atI (farAt n ss g (i + 1)).1 s.1 ∧ atI (farAt n ss g (i + 1)).1 s.1 ≤ atI (farAt n ss g (i + 1)).1 s.2.2 + 1 := by
        intro j hj hjl s hsm es
        by_cases hji : j = i
        · subst hji
          rw [hui] at es
          have h1 := k4 s hsm es
          refine ⟨h1, ?_⟩
          obtain ⟨a, b, ha, hb, han, hbn⟩ := hs s hsm
          rw [es]
          apply k1.most
          rw [ha] at h1 ⊢
          rw [atI_nat] at h1
          exact (k1.mem a han).2 h1
        · exact k1.done j (by omega) hjl s hsm es
      by_cases hl2 : i + 1 < (farAt n ss g (i + 1)).2.length
      · refine ⟨_, ⟨k1.len, k1.low, k1.goal, k1.zero, k1.step, k1.nodup, k1.inN, k1.mem, k1.order, fun a ha => ?_, hdone⟩, fun _ => rfl⟩
        have h1 := k1.most a ha
        have h2 := pair_at k1.order (show i < i + 1 by omega) hl2
        rw [hui] at h2
        omega
      · exact ⟨_, ⟨k1.len, k1.low, k1.goal, k1.zero, k1.step, k1.nodup, k1.inN, k1.mem, k1.order, k1.most, hdone⟩, fun k => absurd k hl2⟩
    · rw [farAt, if_neg hl] at hi
      omega

theorem far_end (hs : StepsN n ss) (hg : g.Pairwise (· < ·)) (hn : InN n g) {i : Nat} (hi : i = (farAt n ss g i).2.length) : FarOK n ss g (farAt n ss g i).1 := by
  obtain ⟨top, h, _⟩ := far_at hs hg hn i (by omega)
  refine ⟨h.len, h.low, h.goal, h.zero, h.step, fun s hsm h0 => ?_⟩
  obtain ⟨a, b, ha, hb, han, hbn⟩ := hs s hsm
  have hm : s.2.2 ∈ (farAt n ss g i).2 := by
    rw [hb, atI_nat] at h0
    rw [hb]
    exact (h.mem b hbn).2 h0
  obtain ⟨j, hj, e⟩ := List.getElem_of_mem hm
  exact h.done j (by omega) hj s hsm (by simp [List.getD, hj, e])

theorem far_len (hs : StepsN n ss) (hg : g.Pairwise (· < ·)) (hn : InN n g) {i : Nat} (hi : i ≤ (farAt n ss g i).2.length) : (farAt n ss g i).2.length ≤ n := by
  obtain ⟨top, h, _⟩ := far_at hs hg hn i hi
  exact pigeon n h.nodup h.inN

theorem far_stop (hs : StepsN n ss) (hg : g.Pairwise (· < ·)) (hn : InN n g) : ∃ i, i = (farAt n ss g i).2.length ∧ ∀ j, i ≤ j → farAt n ss g j = farAt n ss g i := by
  have : ∀ k, (∃ i, i = (farAt n ss g i).2.length) ∨ k < (farAt n ss g k).2.length := by
    intro k
    induction k with
    | zero =>
      by_cases h : 0 < (farAt n ss g 0).2.length
      · exact .inr h
      · exact .inl ⟨0, by omega⟩
    | succ k ih =>
      rcases ih with h | h
      · exact .inl h
      · obtain ⟨top, h1, ht⟩ := far_at hs hg hn k (by omega)
        have ht := ht h
        subst ht
        have hu := getD_mem h
        obtain ⟨u, e, hun⟩ := h1.inN _ hu
        have hst : farAt n ss g (k + 1) = ss.foldl (farStep (u : Int)) (farAt n ss g k) := by rw [farAt, if_pos h, e]
        rw [e] at h1 hu
        obtain ⟨k1, k2, _⟩ := far_fold hs hun ss (fun t ht => ht) _ h1 hu (by omega)
        rw [← hst] at k2
        have := k2.length_le
        by_cases h3 : k + 1 < (farAt n ss g (k + 1)).2.length
        · exact .inr h3
        · exact .inl ⟨k + 1, by omega⟩
  rcases this n with ⟨i, h⟩ | h
  · refine ⟨i, h, fun j hj => ?_⟩
    induction j with
    | zero => obtain rfl : i = 0 := by omega
              rfl
    | succ j ih =>
      by_cases hij : i = j + 1
      · rw [hij]
      · have := ih (by omega)
        rw [farAt, this, if_neg (by omega)]
  · have := far_len hs hg hn (i := n) (by omega)
    omega

/-- The fewest steps to goals, or -1. -/
def farL (l : Sys) (g : List Int) : List Int := (farAt l.states.length l.steps g l.states.length).1

theorem far_done {i : Nat} (hs : StepsN n ss) (hg : g.Pairwise (· < ·)) (hn : InN n g) (hi : i = (farAt n ss g i).2.length) : (farAt n ss g i).1 = (farAt n ss g n).1 := by
  obtain ⟨k, hk, hst⟩ := far_stop hs hg hn
  have h1 := far_end hs hg hn hi
  have h2 := far_end hs hg hn hk
  have h3 : k ≤ n := by have := far_len hs hg hn (i := k) (by omega); omega
  rw [hst n h3]
  exact far_unique hs h1 h2
theorem far_ok (hs : StepsN n ss) (hg : g.Pairwise (· < ·)) (hn : InN n g) : FarOK n ss g (farAt n ss g n).1 := by
  obtain ⟨k, hk, hst⟩ := far_stop hs hg hn
  have h3 : k ≤ n := by have := far_len hs hg hn (i := k) (by omega); omega
  rw [hst n h3]
  exact far_end hs hg hn hk

/-- The reference's rounds. -/
def relax (d : List Int) (s : I3) : List Int :=
  if decide (0 ≤ atI d s.2.2) && (decide (atI d s.1 < 0) || decide (atI d s.2.2 + 1 < atI d s.1)) then d.set s.1.toNat (atI d s.2.2 + 1) else d
def farR (n : Nat) (ss : List I3) (g : List Int) : Nat → List Int
  | 0 => rkInit n g
  | k + 1 => ss.foldl relax (farR n ss g k)

theorem relax_ok {s : I3} (hs : StepsN n ss) (hm : s ∈ ss) (h : FarR n ss g d) : FarR n ss g (relax d s) ∧ (∀ k : Nat, k < n → 0 ≤ d.getD k 0 → 0 ≤ (relax d s).getD k 0 ∧ (relax d s).getD k 0 ≤ d.getD k 0) ∧ (0 ≤ atI d s.2.2 → 0 ≤ atI (relax d s) s.1 ∧ atI (relax d s) s.1 ≤ atI d s.2.2 + 1) := by
  obtain ⟨a, b, ha, hb, han, hbn⟩ := hs s hm
  unfold relax
  rw [ha, hb, atI_nat, atI_nat, Int.toNat_natCast]
  have hlen := h.len
  split
  · rename_i hc
    simp only [Bool.and_eq_true, Bool.or_eq_true, decide_eq_true_eq] at hc
    have hag : (a : Int) ∉ g := fun k => by have := h.goal a han k; omega
    have hdown : ∀ k : Nat, k < n → 0 ≤ d.getD k 0 → 0 ≤ (d.set a (d.getD b 0 + 1)).getD k 0 ∧ (d.set a (d.getD b 0 + 1)).getD k 0 ≤ d.getD k 0 := by
      intro k hk h0
      rw [getD_set _ _ _ _ (by omega)]
      split
      · rename_i e; subst e; omega
      · omega
    refine ⟨⟨by simpa using hlen, ?_, ?_, ?_, ?_⟩, hdown, fun _ => ?_⟩
    · intro k
      rw [getD_set _ _ _ _ (by omega)]
      split
      · omega
      · exact h.low k
    · intro k hk hg
      rw [getD_set _ _ _ _ (by omega), if_neg (by intro e; subst e; exact hag hg)]
      exact h.goal k hk hg
    · intro k hk
      rw [getD_set _ _ _ _ (by omega)]
      split
      · intro e; omega
      · exact h.zero k hk
    · intro k hk
      rw [getD_set _ _ _ _ (by omega)]
      split
      · rename_i e
        subst e
        intro _
        have := hdown b hbn hc.1
        exact ⟨s, hm, ha, by rw [hb, atI_nat]; omega, by rw [hb, atI_nat]; omega⟩
      · intro h0
        obtain ⟨t, t1, t2, t3, t4⟩ := h.step k hk h0
        obtain ⟨a', b', _, hb', _, hbn'⟩ := hs t t1
        rw [hb', atI_nat] at t3 t4
        have := hdown b' hbn' t3
        exact ⟨t, t1, t2, by rw [hb', atI_nat]; omega, by rw [hb', atI_nat]; omega⟩
    · rw [atI_nat, getD_set _ _ _ _ (by omega), if_pos rfl]
      omega
  · rename_i hc
    refine ⟨h, fun k _ h0 => ⟨h0, Int.le_refl _⟩, fun h0 => ?_⟩
    simp only [Bool.and_eq_true, Bool.or_eq_true, decide_eq_true_eq, not_and] at hc
    have := hc h0
    rw [atI_nat]
    omega

theorem relax_fold (hs : StepsN n ss) : ∀ (ts : List I3), (∀ t ∈ ts, t ∈ ss) → ∀ d, FarR n ss g d → FarR n ss g (ts.foldl relax d) ∧ (∀ k : Nat, k < n → 0 ≤ d.getD k 0 → 0 ≤ (ts.foldl relax d).getD k 0 ∧ (ts.foldl relax d).getD k 0 ≤ d.getD k 0) ∧
    (∀ t ∈ ts, 0 ≤ atI d t.2.2 → 0 ≤ atI (ts.foldl relax d) t.1 ∧ atI (ts.foldl relax d) t.1 ≤ atI d t.2.2 + 1)
  | [], _, d, h => ⟨h, fun k _ h0 => ⟨h0, Int.le_refl _⟩, fun t ht => by simp at ht⟩
  | s :: ts, hsub, d, h => by
    obtain ⟨h1, h2, h3⟩ := relax_ok hs (hsub s (by simp)) h
    obtain ⟨k1, k2, k3⟩ := relax_fold hs ts (fun t ht => hsub t (List.mem_cons_of_mem _ ht)) _ h1
    rw [List.foldl_cons]
    refine ⟨k1, fun k hk h0 => ?_, fun t ht h0 => ?_⟩
    · have a := h2 k hk h0
      have b := k2 k hk a.1
      omega
    · obtain ⟨a, b, ha, hb, han, hbn⟩ := hs t (hsub t ht)
      rcases List.mem_cons.1 ht with rfl | ht
      · have c := h3 h0
        rw [ha, atI_nat] at c ⊢
        have e := k2 a han c.1
        omega
      · rw [hb, atI_nat] at h0
        have c := h2 b hbn h0
        have e := k3 t ht (by rw [hb, atI_nat]; exact c.1)
        rw [hb, atI_nat] at e ⊢
        omega

theorem farR_r (hs : StepsN n ss) : ∀ k, FarR n ss g (farR n ss g k)
  | 0 => by
    have hr : RK n ss g (rkInit n g) := rk_init
    have hz : ∀ i : Nat, i < n → 0 ≤ (rkInit n g).getD i 0 → (i : Int) ∈ g := by
      intro i hi h
      rw [rkInit_at hi] at h
      split at h
      · rename_i e; simpa [hasI] using e
      · omega
    exact ⟨hr.len, hr.low, hr.goal, fun i hi e => hz i hi (by unfold farR at e; omega), fun i hi h => by
      have h : 0 < (rkInit n g).getD i 0 := h
      have := hr.goal i hi (hz i hi (by omega))
      omega⟩
  | k + 1 => (relax_fold hs ss (fun t ht => ht) _ (farR_r hs k)).1

/-- After k rounds all numbers up to k are told. -/
theorem farR_near {c : List Int} (hs : StepsN n ss) (hc : FarOK n ss g c) : ∀ (k : Nat) (i : Nat), i < n → 0 ≤ c.getD i 0 → c.getD i 0 ≤ k → 0 ≤ (farR n ss g k).getD i 0 ∧ (farR n ss g k).getD i 0 ≤ c.getD i 0
  | 0, i, hi, h0, h1 => by
    have := (farR_r (g := g) hs 0).goal i hi (hc.zero i hi (by omega))
    omega
  | k + 1, i, hi, h0, h1 => by
    obtain ⟨_, k2, k3⟩ := relax_fold (g := g) hs ss (fun t ht => ht) _ (farR_r hs k)
    by_cases h : c.getD i 0 ≤ k
    · have a := farR_near hs hc k i hi h0 h
      have b := k2 i hi a.1
      rw [farR]
      omega
    · obtain ⟨s, h2, h3, h4⟩ := hc.step i hi (by omega)
      obtain ⟨a, b, ha, hb, han, hbn⟩ := hs s h2
      rw [hb, atI_nat] at h4
      have e := farR_near hs hc k b hbn (by omega) (by omega)
      have f := k3 s h2 (by rw [hb, atI_nat]; exact e.1)
      rw [h3, hb, atI_nat, atI_nat] at f
      rw [farR]
      omega

/-- Numbers are told without a gap, so there are not more of them than states. -/
theorem far_gap {c : List Int} (hs : StepsN n ss) (hc : FarOK n ss g c) : ∀ (k : Nat) (i : Nat), i < n → c.getD i 0 = (k : Int) → ∃ t : List Int, t.Nodup ∧ InN n t ∧ t.length = k + 1 ∧ ∀ y ∈ t, atI c y ≤ k
  | 0, i, hi, e => ⟨[(i : Int)], by simp, fun y hy => by simp at hy; exact ⟨i, hy, hi⟩, rfl, fun y hy => by simp at hy; subst hy; rw [atI_nat, e]; omega⟩
  | k + 1, i, hi, e => by
    obtain ⟨s, h2, h3, h4⟩ := hc.step i hi (by omega)
    obtain ⟨a, b, ha, hb, han, hbn⟩ := hs s h2
    rw [hb, atI_nat] at h4
    obtain ⟨t, t1, t2, t3, t4⟩ := far_gap hs hc k b hbn (by omega)
    refine ⟨(i : Int) :: t, ?_, ?_, by simp [t3], ?_⟩
    · rw [List.nodup_cons]
      refine ⟨fun h => ?_, t1⟩
      have := t4 _ h
      rw [atI_nat] at this
      omega
    · intro y hy
      rcases List.mem_cons.1 hy with rfl | hy
      · exact ⟨i, rfl, hi⟩
      · exact t2 y hy
    · intro y hy
      rcases List.mem_cons.1 hy with rfl | hy
      · rw [atI_nat]; omega
      · have := t4 y hy; omega

theorem farR_done (hs : StepsN n ss) (hg : g.Pairwise (· < ·)) (hn : InN n g) : farR n ss g n = (farAt n ss g n).1 := by
  have hc := far_ok hs hg hn
  have hd := farR_r (g := g) hs n
  have hl : (farR n ss g n).length = (farAt n ss g n).1.length := by rw [hd.len, hc.len]
  apply List.ext_getElem hl
  intro i h1 h2
  have hi : i < n := by have := hd.len; omega
  have ea : (farR n ss g n)[i] = (farR n ss g n).getD i 0 := by simp [List.getD, h1]
  have eb : (farAt n ss g n).1[i] = (farAt n ss g n).1.getD i 0 := by simp [List.getD, h2]
  rw [ea, eb]
  have l1 := hd.low i
  have l2 := hc.low i
  by_cases h0 : 0 ≤ (farAt n ss g n).1.getD i 0
  · obtain ⟨k, hk⟩ := Int.eq_ofNat_of_zero_le h0
    obtain ⟨t, t1, t2, t3, _⟩ := far_gap hs hc k i hi hk
    have hkn := pigeon n t1 t2
    have a := farR_near hs hc n i hi h0 (by omega)
    obtain ⟨q, hq⟩ := Int.eq_ofNat_of_zero_le a.1
    have b := far_le hs hd hc q i hi hq
    omega
  · by_cases h3 : 0 ≤ (farR n ss g n).getD i 0
    · obtain ⟨q, hq⟩ := Int.eq_ofNat_of_zero_le h3
      have b := far_le hs hd hc q i hi hq
      omega
    · omega

/-- The way: always the first step that is one nearer. -/
def nearB (d : List Int) (p : Int) (s : I3) : Bool := s.1 == p && (atI d s.2.2 == atI d p - 1)
def wayL (ss : List I3) (d : List Int) : Nat → Int → List I3
  | 0, _ => []
  | k + 1, p => match ss.find? (nearB d p) with | some s => s :: wayL ss d k s.2.2 | none => []

theorem near_some (hs : StepsN n ss) (h : FarOK n ss g d) {p : Nat} (hp : p < n) (h0 : 0 < d.getD p 0) : ∃ s, ss.find? (nearB d (p : Int)) = some s ∧ s ∈ ss ∧ s.1 = (p : Int) ∧ atI d s.2.2 = d.getD p 0 - 1 := by
  obtain ⟨s, h1, h2, h3⟩ := h.step p hp h0
  have hn : nearB d (p : Int) s = true := by
    unfold nearB
    rw [atI_nat, h2, h3]
    simp
  cases hf : ss.find? (nearB d (p : Int)) with
  | none =>
    rw [List.find?_eq_none] at hf
    exact absurd hn (hf s h1)
  | some t =>
    have h4 := List.find?_some hf
    unfold nearB at h4
    rw [Bool.and_eq_true, beq_iff_eq, beq_iff_eq, atI_nat] at h4
    exact ⟨t, rfl, List.mem_of_find?_eq_some hf, h4.1, h4.2⟩
/-- Among the steps from p alone the first one is the same. -/
theorem near_from (ss : List I3) (d : List Int) (p : Int) : (ss.filter fun s => s.1 == p).find? (fun s => atI d s.2.2 == atI d p - 1) = ss.find? (nearB d p) := by
  rw [List.find?_filter]
  congr 1
  funext a
  unfold nearB
  rw [Bool.eq_iff_iff]
  simp
theorem way_next {p : Int} {s : I3} {k : Nat} (h : ss.find? (nearB d p) = some s) : wayL ss d (k + 1) p = s :: wayL ss d k s.2.2 := by
  rw [wayL, h]
theorem way_len (hs : StepsN n ss) (h : FarOK n ss g d) : ∀ (k p : Nat), p < n → d.getD p 0 = (k : Int) → (wayL ss d k (p : Int)).length = k
  | 0, _, _, _ => rfl
  | k + 1, p, hp, e => by
    obtain ⟨s, h1, h2, h3, h4⟩ := near_some hs h hp (by omega)
    obtain ⟨a, b, ha, hb, han, hbn⟩ := hs s h2
    rw [way_next h1, List.length_cons, hb]
    rw [hb, atI_nat] at h4
    rw [way_len hs h k b hbn (by omega)]
end

end Go.Proofs.Ytlgdmafgbmnjdaa
