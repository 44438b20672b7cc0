/- Labelled systems: the quotient. Plain law: no two of its states are bisimilar, and each state is bisimilar to its own of the quotient. -/
import Derived.Test.YtdgnhfhaaghoaaaGreatDoorJ38
set_option linter.unusedSimpArgs false
set_option linter.unusedVariables false
namespace Go.Proofs.YtdgnhfhaaghoaaaGreatDoor

theorem rep_is {l : Lab} {i : Nat} : isRep l i = true ↔ (lastL l).getD i 0 = (i : Int) := by simp [isRep]
/-- The place p has the state r. -/
theorem reps_get {l : Lab} {p : Nat} (hp : p < (repsI l).length) : ∃ r : Nat, (repsI l)[p]? = some (r : Int) ∧ r < l.shows.length ∧ isRep l r = true ∧ posR l r = p := by
  obtain ⟨x, hx⟩ : ∃ x, (repsI l)[p]? = some x := ⟨_, List.getElem?_eq_getElem hp⟩
  have hm := List.mem_of_getElem? hx
  unfold repsI at hm
  simp only [List.mem_map, List.mem_filter, List.mem_range] at hm
  obtain ⟨r, ⟨hr, hrep⟩, rfl⟩ := hm
  refine ⟨r, hx, hr, hrep, ?_⟩
  have h2 := reps_at l hr hrep
  obtain ⟨a, ea⟩ := List.getElem?_eq_some_iff.1 hx
  obtain ⟨b, eb⟩ := List.getElem?_eq_some_iff.1 h2
  rcases Nat.lt_trichotomy p (posR l r) with h | h | h
  · have := (List.pairwise_iff_getElem.1 (reps_sorted l)) p (posR l r) a b h
    rw [ea, eb] at this; omega
  · exact h.symm
  · have := (List.pairwise_iff_getElem.1 (reps_sorted l)) (posR l r) p b a h
    rw [ea, eb] at this; omega
theorem quo_len (l : Lab) : (quoL l).shows.length = (repsI l).length := by simp [quoL]
theorem quo_show {l : Lab} {p r : Nat} (h : (repsI l)[p]? = some (r : Int)) : (quoL l).shows.getD p [] = l.shows.getD r [] := by
  simp [quoL, List.getD, h]
theorem pos_lt {l : Lab} {r : Nat} (hr : r < l.shows.length) (h : isRep l r = true) : posR l r < (repsI l).length := (List.getElem?_eq_some_iff.1 (reps_at l hr h)).1

theorem quo_mem {l : Lab} (hl : GoodL l) {x : I3} : x ∈ (quoL l).steps ↔ ∃ s ∈ l.steps, ∃ r w k : Nat, s.1 = (r : Int) ∧ s.2.2 = (w : Int) ∧ r < l.shows.length ∧ w < l.shows.length ∧ isRep l r = true ∧ (lastL l).getD w 0 = (k : Int) ∧ k < l.shows.length ∧ isRep l k = true ∧ x = ((posR l r : Int), s.2.1, (posR l k : Int)) := by
  show x ∈ sortT (quoSteps l) ↔ _
  rw [sortT_mem]
  unfold quoSteps
  rw [List.mem_map]
  constructor
  · rintro ⟨s, hs, rfl⟩
    rw [List.mem_filter] at hs
    obtain ⟨r, w, h1, h2, h3, h4⟩ := hl.steps s hs.1
    obtain ⟨k, k1, k2, k3⟩ := last_rep l h4
    have e1 : s.1.toNat = r := by omega
    have e2 : s.2.2.toNat = w := by omega
    rw [e1] at hs ⊢
    rw [e2, k1, Int.toNat_natCast]
    exact ⟨s, hs.1, r, w, k, h1, h2, h3, h4, hs.2, k1, k2, k3, rfl⟩
  · rintro ⟨s, hs, r, w, k, h1, h2, h3, h4, h5, h6, h7, h8, rfl⟩
    have e1 : s.1.toNat = r := by omega
    have e2 : s.2.2.toNat = w := by omega
    refine ⟨s, List.mem_filter.2 ⟨hs, by rw [e1]; exact h5⟩, ?_⟩
    rw [e1, e2, h6, Int.toNat_natCast]

theorem quo_good {l : Lab} (hl : GoodL l) : GoodL (quoL l) := by
  refine ⟨?_, fun x hx => ?_, fun x hx => ?_, fun p hp => ?_⟩
  · rw [quo_len]
    obtain ⟨k, _, k2, k3⟩ := last_rep l (i := 0) (by have := hl.some_; omega)
    have := pos_lt k2 k3
    omega
  · obtain ⟨s, hs, r, w, k, h1, h2, h3, h4, h5, h6, h7, h8, rfl⟩ := (quo_mem hl).1 hx
    rw [quo_len]
    exact ⟨_, _, rfl, rfl, pos_lt h3 h5, pos_lt h7 h8⟩
  · obtain ⟨s, hs, r, w, k, h1, h2, h3, h4, h5, h6, h7, h8, rfl⟩ := (quo_mem hl).1 hx
    exact hl.acts s hs
  · rw [quo_len] at hp
    obtain ⟨r, h1, h2, _, _⟩ := reps_get hp
    rw [quo_show h1]
    exact hl.marks r h2

/-- The state of l for which a state of the union of l and its quotient stands. -/
def own_ (l : Lab) (x r : Nat) : Prop := (x < l.shows.length ∧ (lastL l).getD x 0 = (r : Int)) ∨ ∃ p, x = l.shows.length + p ∧ (repsI l)[p]? = some (r : Int)

theorem quo_bis {l : Lab} (hl : GoodL l) {x y r : Nat} (hx : own_ l x r) (hy : own_ l y r) : bis (uniQ l (quoL l)) x y := by
  have hq := quo_good hl
  have rr : ∀ {x r : Nat}, own_ l x r → x < (uniQ l (quoL l)).shows.length ∧ r < l.shows.length ∧ isRep l r = true ∧ (uniQ l (quoL l)).shows.getD x [] = l.shows.getD r [] := by
    rintro x r (⟨h1, h2⟩ | ⟨p, rfl, hp⟩)
    · obtain ⟨k, k1, k2, k3⟩ := last_rep l h1
      obtain rfl : r = k := by omega
      refine ⟨by rw [uni_len]; omega, k2, k3, ?_⟩
      rw [uni_show1 h1]
      exact bis_shows h1 k2 (show (lastL l).getD x 0 = (lastL l).getD r 0 by rw [h2, rep_is.1 k3])
    · have hpl := (List.getElem?_eq_some_iff.1 hp).1
      obtain ⟨k, k1, k2, k3, _⟩ := reps_get hpl
      rw [hp] at k1
      injection k1 with k1
      obtain rfl : r = k := by omega
      refine ⟨by rw [uni_len, quo_len]; omega, k2, k3, ?_⟩
      rw [uni_show2, quo_show hp]
  -- a step of x tells one of r
  have down : ∀ {x r : Nat}, own_ l x r → ∀ s ∈ (uniQ l (quoL l)).steps, s.1 = (x : Int) → ∃ t ∈ l.steps, ∃ k : Nat, t.1 = (r : Int) ∧ t.2.1 = s.2.1 ∧ (lastL l).getD t.2.2.toNat 0 = (k : Int) ∧ own_ l s.2.2.toNat k := by
    rintro x r hx s hs e
    obtain ⟨_, hr, hrep, _⟩ := rr hx
    rcases hx with ⟨h1, h2⟩ | ⟨p, rfl, hp⟩
    · rcases uni_mem.1 hs with h | ⟨t, h, rfl⟩
      · obtain ⟨t, ht, t1, t2, t3⟩ := bis_next hl h1 hr (show (lastL l).getD x 0 = (lastL l).getD r 0 by rw [h2, rep_is.1 hrep]) h e
        obtain ⟨_, u, _, hu, _, hun⟩ := hl.steps s h
        have e1 : s.2.2.toNat = u := by omega
        obtain ⟨k, k1, k2, k3⟩ := last_rep l hun
        rw [e1] at t3 ⊢
        exact ⟨t, ht, k, t1, t2, t3.trans k1, .inl ⟨hun, k1⟩⟩
      · obtain ⟨a, b, ha, _, _, _⟩ := hq.steps t h
        have e : t.1 + (l.shows.length : Int) = (x : Int) := e
        omega
    · rcases uni_mem.1 hs with h | ⟨t, h, rfl⟩
      · obtain ⟨a, b, ha, _, han, _⟩ := hl.steps s h
        omega
      · obtain ⟨s0, hs0, r0, w, k, h1, h2, h3, h4, h5, h6, h7, h8, rfl⟩ := (quo_mem hl).1 h
        have e : (posR l r0 : Int) + (l.shows.length : Int) = ((l.shows.length + p : Nat) : Int) := e
        have hp0 : p = posR l r0 := by omega
        have hr0 := reps_at l h3 h5
        rw [← hp0, hp] at hr0
        injection hr0 with hr0
        refine ⟨s0, hs0, k, by omega, rfl, by rw [show s0.2.2.toNat = w by omega]; exact h6, .inr ⟨posR l k, ?_, reps_at l h7 h8⟩⟩
        show ((posR l k : Int) + (l.shows.length : Int)).toNat = _
        omega
  -- a step of r is one of y
  have up : ∀ {y r : Nat}, own_ l y r → ∀ t ∈ l.steps, t.1 = (r : Int) → ∀ k : Nat, (lastL l).getD t.2.2.toNat 0 = (k : Int) → ∃ s ∈ (uniQ l (quoL l)).steps, s.1 = (y : Int) ∧ s.2.1 = t.2.1 ∧ own_ l s.2.2.toNat k := by
    rintro y r hy t ht e k hk
    obtain ⟨_, hr, hrep, _⟩ := rr hy
    rcases hy with ⟨h1, h2⟩ | ⟨p, rfl, hp⟩
    · obtain ⟨s, hs, s1, s2, s3⟩ := bis_next hl hr h1 (show (lastL l).getD r 0 = (lastL l).getD y 0 by rw [h2, rep_is.1 hrep]) ht e
      obtain ⟨_, u, _, hu, _, hun⟩ := hl.steps s hs
      have e1 : s.2.2.toNat = u := by omega
      refine ⟨s, uni_mem.2 (.inl hs), s1, s2, .inl ⟨by omega, ?_⟩⟩
      have s3 : (lastL l).getD s.2.2.toNat 0 = (lastL l).getD t.2.2.toNat 0 := s3
      rw [s3, hk]
    · obtain ⟨_, w, _, hw, _, hwn⟩ := hl.steps t ht
      have e1 : t.2.2.toNat = w := by omega
      rw [e1] at hk
      obtain ⟨k', k1, k2, k3⟩ := last_rep l hwn
      obtain rfl : k = k' := by omega
      have hr0 := reps_at l hr hrep
      have hpl := (List.getElem?_eq_some_iff.1 hp).1
      obtain ⟨r', q1, q2, q3, q4⟩ := reps_get hpl
      rw [hp] at q1
      injection q1 with q1
      obtain rfl : r = r' := by omega
      refine ⟨shiftQ l.shows.length ((posR l r : Int), t.2.1, (posR l k : Int)), uni_mem.2 (.inr ⟨_, (quo_mem hl).2 ⟨t, ht, r, w, k, e, hw, hr, hwn, hrep, hk, k2, k3, rfl⟩, rfl⟩), ?_, rfl, .inr ⟨posR l k, ?_, reps_at l k2 k3⟩⟩
      · show (posR l r : Int) + (l.shows.length : Int) = _
        omega
      · show ((posR l k : Int) + (l.shows.length : Int)).toNat = _
        omega
  refine bis_great (uni_good hl hq) (R := fun x y => ∃ r, own_ l x r ∧ own_ l y r) ?_ x y ⟨r, hx, hy⟩
  rintro x y ⟨r, hx, hy⟩
  obtain ⟨x1, x2, x3, x4⟩ := rr hx
  obtain ⟨y1, y2, y3, y4⟩ := rr hy
  refine ⟨x1, y1, by rw [x4, y4], fun s hs e => ?_, fun t ht e => ?_⟩
  · obtain ⟨t, ht, k, t1, t2, t3, t4⟩ := down hx s hs e
    obtain ⟨u, hu, u1, u2, u3⟩ := up hy t ht t1 k t3
    exact ⟨u, hu, u1, u2.trans t2, k, t4, u3⟩
  · obtain ⟨t', ht', k, t1, t2, t3, t4⟩ := down hy t ht e
    obtain ⟨u, hu, u1, u2, u3⟩ := up hx t' ht' t1 k t3
    exact ⟨u, hu, u1, u2.trans t2, k, u3, t4⟩

/-- In the union of a system and its quotient a state of the quotient has the number of the state for which it stands. -/
theorem quo_last {l : Lab} (hl : GoodL l) {p r : Nat} (hp : (repsI l)[p]? = some (r : Int)) : (lastL (uniQ l (quoL l))).getD (l.shows.length + p) 0 = (r : Int) := by
  have hq := quo_good hl
  have hpl := (List.getElem?_eq_some_iff.1 hp).1
  obtain ⟨r', q1, q2, q3, q4⟩ := reps_get hpl
  rw [hp] at q1
  injection q1 with q1
  obtain rfl : r = r' := by omega
  have hrr : (lastL l).getD r 0 = (r : Int) := rep_is.1 q3
  have hb : bis (uniQ l (quoL l)) r (l.shows.length + p) := quo_bis hl (r := r) (.inl ⟨q2, hrr⟩) (.inr ⟨p, rfl, hp⟩)
  refine last_least (by rw [uni_len, quo_len]; omega) (by omega) hb fun j hj h => ?_
  have h2 := (uni_bis1 hl hq (show j < l.shows.length by omega) q2).1 (bis_trans h (bis_symm hb))
  obtain ⟨k, k1, k2, _⟩ := parts_spec l l.shows.length (show j < l.shows.length by omega)
  have h3 : (lastL l).getD j 0 = (lastL l).getD r 0 := h2
  have k1 : (lastL l).getD j 0 = (k : Int) := k1
  omega
/-- No two states of a quotient are bisimilar. -/
theorem quo_own {l : Lab} (hl : GoodL l) {p : Nat} (hp : p < (quoL l).shows.length) : (lastL (quoL l)).getD p 0 = (p : Int) := by
  have hq := quo_good hl
  refine last_least hp (Nat.le_refl _) (bis_refl _ _) fun j hj h => ?_
  have h2 := (uni_bis2 hl hq (show j < _ by omega) hp).2 h
  rw [quo_len] at hp
  obtain ⟨r, r1, _, _, r4⟩ := reps_get hp
  obtain ⟨q, q1, _, _, q4⟩ := reps_get (show j < (repsI l).length by omega)
  have e1 := quo_last hl r1
  have e2 := quo_last hl q1
  have h2 : (lastL (uniQ l (quoL l))).getD (l.shows.length + j) 0 = (lastL (uniQ l (quoL l))).getD (l.shows.length + p) 0 := h2
  have : q = r := by omega
  subst this
  omega

end Go.Proofs.YtdgnhfhaaghoaaaGreatDoor
