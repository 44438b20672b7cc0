/- The parts of nodes that share links. Plain law: the reference's rounds and the program's loop end in the same list. -/
import Derived.Lib.Hide
set_option linter.unusedVariables false
namespace Go.Proofs.YtmnnbgciakigfaaDoor

/-- Which nodes are reached from j by r meetings at most. -/
def ballB (n : Nat) (m : Nat → Nat → Bool) (j : Nat) : Nat → Nat → Bool
  | 0, i => i == j
  | r + 1, i => ballB n m j r i || (List.range n).any fun k => ballB n m j r k && m k i

section
variable {n : Nat} {m : Nat → Nat → Bool} {j : Nat}
theorem ball_up {r i : Nat} (h : ballB n m j r i = true) : ballB n m j (r + 1) i = true := by
  simp [ballB, h]
theorem ball_mono {r s i : Nat} (h : ballB n m j r i = true) (hs : r ≤ s) : ballB n m j s i = true := by
  induction hs with
  | refl => exact h
  | step _ ih => exact ball_up ih
theorem ball_step {r k i : Nat} (h : ballB n m j r k = true) (hk : k < n) (hm : m k i = true) : ballB n m j (r + 1) i = true := by
  rw [ballB, Bool.or_eq_true, List.any_eq_true]
  exact .inr ⟨k, List.mem_range.2 hk, by simp [h, hm]⟩
theorem ball_cases {r i : Nat} (h : ballB n m j (r + 1) i = true) : ballB n m j r i = true ∨ ∃ k, k < n ∧ ballB n m j r k = true ∧ m k i = true := by
  rw [ballB, Bool.or_eq_true, List.any_eq_true] at h
  rcases h with h | ⟨k, hk, h⟩
  · exact .inl h
  · simp only [Bool.and_eq_true] at h
    exact .inr ⟨k, List.mem_range.1 hk, h.1, h.2⟩

theorem filt_le {α : Type} {p q : α → Bool} : ∀ {l : List α}, (∀ x ∈ l, p x = true → q x = true) → (l.filter p).length ≤ (l.filter q).length
  | [], _ => by simp
  | a :: l, h => by
    have ih := filt_le (l := l) fun x hx => h x (List.mem_cons_of_mem _ hx)
    have ha := h a (by simp)
    cases hp : p a with
    | true => simp [List.filter_cons, hp, ha hp]; exact ih
    | false =>
      cases hq : q a
      · simp [List.filter_cons, hp, hq]; exact ih
      · simp [List.filter_cons, hp, hq]; omega
theorem filt_lt {α : Type} {p q : α → Bool} : ∀ {l : List α}, (∀ x ∈ l, p x = true → q x = true) → (∃ x ∈ l, p x = false ∧ q x = true) → (l.filter p).length < (l.filter q).length
  | [], _, ⟨x, h, _⟩ => by simp at h
  | a :: l, h, ⟨x, hx, h1, h2⟩ => by
    have hl := fun x hx => h x (List.mem_cons_of_mem a hx)
    have ha := h a (by simp)
    rcases List.mem_cons.1 hx with rfl | hx
    · have := filt_le (l := l) hl
      simp [List.filter_cons, h1, h2]
      omega
    · have := filt_lt (l := l) hl ⟨x, hx, h1, h2⟩
      cases hp : p a with
      | true => simp [List.filter_cons, hp, ha hp]; omega
      | false =>
        cases hq : q a
        · simp [List.filter_cons, hp, hq]; omega
        · simp [List.filter_cons, hp, hq]; omega

def Shut (n : Nat) (m : Nat → Nat → Bool) (j r : Nat) : Prop := ∀ i, i < n → ballB n m j (r + 1) i = true → ballB n m j r i = true
theorem ball_many (hj : j < n) : ∀ r, (∃ s, s ≤ r ∧ Shut n m j s) ∨ r + 1 ≤ ((List.range n).filter (ballB n m j r)).length
  | 0 => by
    refine .inr ?_
    have : j ∈ (List.range n).filter (ballB n m j 0) := List.mem_filter.2 ⟨List.mem_range.2 hj, by simp [ballB]⟩
    exact List.length_pos_of_mem this
  | r + 1 => by
    rcases ball_many hj r with ⟨s, h1, h2⟩ | h
    · exact .inl ⟨s, by omega, h2⟩
    · rcases Classical.em (Shut n m j r) with hs | hs
      · exact .inl ⟨r, by omega, hs⟩
      · refine .inr ?_
        have hex : ∃ i, i < n ∧ ballB n m j (r + 1) i = true ∧ ballB n m j r i = false := by
          refine Classical.byContradiction fun hn => hs fun i hi h1 => ?_
          cases hb : ballB n m j r i
          · exact absurd ⟨i, hi, h1, hb⟩ hn
          · rfl
        obtain ⟨i, hi, h1, h2⟩ := hex
        have := filt_lt (l := List.range n) (p := ballB n m j r) (q := ballB n m j (r + 1)) (fun x _ h => ball_up h) ⟨i, List.mem_range.2 hi, h2, h1⟩
        omega
theorem shut_next {s : Nat} (h : Shut n m j s) : Shut n m j (s + 1) := fun i hi hb => by
  rcases ball_cases hb with hb | ⟨k, hk, h1, h2⟩
  · exact hb
  · exact ball_step (h k hk h1) hk h2
theorem shut_stay {s : Nat} (h : Shut n m j s) : ∀ d i, i < n → ballB n m j (s + d) i = true → ballB n m j s i = true
  | 0, i, hi, hb => hb
  | d + 1, i, hi, hb => by
    have hd : Shut n m j (s + d) := by
      clear hb
      induction d with
      | zero => exact h
      | succ d ih => exact shut_next ih
    exact shut_stay h d i hi (hd i hi hb)
/-- What is reached in n meetings meets no others. -/
theorem ball_shut (hj : j < n) {k i : Nat} (hk : k < n) (hi : i < n) (h : ballB n m j n k = true) (hm : m k i = true) : ballB n m j n i = true := by
  rcases ball_many (m := m) hj n with ⟨s, hs, hc⟩ | h2
  · obtain ⟨d, rfl⟩ : ∃ d, n = s + d := ⟨n - s, by omega⟩
    have h1 := shut_stay hc d k hk h
    exact ball_mono (hc i hi (ball_step h1 hk hm)) (by omega)
  · have : ((List.range n).filter (ballB n m j n)).length ≤ n := by
      have := List.length_filter_le (ballB n m j n) (List.range n)
      rwa [List.length_range] at this
    omega
end

/-- The reference's step, row, round. -/
def stepS (m : Nat → Nat → Bool) (i : Nat) (o : List Int) (k : Nat) : List Int := if m i k && decide (o.getD k 0 < o.getD i 0) then o.set i (o.getD k 0) else o
def rowS (n : Nat) (m : Nat → Nat → Bool) (o : List Int) (i : Nat) : List Int := (List.range n).foldl (stepS m i) o
def passS (n : Nat) (m : Nat → Nat → Bool) (o : List Int) : List Int := (List.range n).foldl (rowS n m) o
def partS (n : Nat) (m : Nat → Nat → Bool) : Nat → List Int
  | 0 => (List.range n).map fun i : Nat => (i : Int)
  | r + 1 => passS n m (partS n m r)

/-- The program's. -/
def stepI (m : Nat → Nat → Bool) (i : Nat) (x : List Int × Bool) (k : Nat) : List Int × Bool := if decide (x.1.getD i 0 < x.1.getD k 0) && m i k then (x.1.set k (x.1.getD i 0), true) else x
def rowI (n : Nat) (m : Nat → Nat → Bool) (x : List Int × Bool) (i : Nat) : List Int × Bool := (List.range n).foldl (stepI m i) x
def passI (n : Nat) (m : Nat → Nat → Bool) (o : List Int) : List Int × Bool := (List.range n).foldl (rowI n m) (o, false)

structure OKP (n : Nat) (m : Nat → Nat → Bool) (o : List Int) : Prop where
  len : o.length = n
  rng : ∀ i, i < n → ∃ j : Nat, o.getD i 0 = (j : Int) ∧ j < n ∧ ballB n m j n i = true

theorem getD_set {o : List Int} {i x : Nat} {v : Int} : (o.set i v).getD x 0 = if i = x ∧ i < o.length then v else o.getD x 0 := by
  by_cases h : i = x
  · subst h
    by_cases hl : i < o.length
    · simp [List.getD, hl]
    · simp [List.getD, hl]
  · rw [if_neg (fun k => h k.1)]
    simp [List.getD, List.getElem?_set_ne h]

section
variable {n : Nat} {m : Nat → Nat → Bool}
theorem OKP.put {o : List Int} (h : OKP n m o) {a b : Nat} (ha : a < n) (hb : b < n) (hm : m a b = true) : OKP n m (o.set b (o.getD a 0)) := by
  refine ⟨by simp [h.len], fun i hi => ?_⟩
  rw [getD_set]
  split
  · rename_i he
    obtain ⟨rfl, _⟩ := he
    obtain ⟨j, h1, h2, h3⟩ := h.rng a ha
    exact ⟨j, h1, h2, ball_shut h2 ha hb h3 hm⟩
  · exact h.rng i hi

theorem stepS_ok (hs : ∀ i k, m i k = m k i) {o : List Int} (h : OKP n m o) {i k : Nat} (hi : i < n) (hk : k < n) :
    OKP n m (stepS m i o k) ∧ (∀ x, (stepS m i o k).getD x 0 ≤ o.getD x 0) ∧ (m i k = true → (stepS m i o k).getD i 0 ≤ o.getD k 0) := by
  unfold stepS
  by_cases hm : m i k = true
  · by_cases hlt : o.getD k 0 < o.getD i 0
    · rw [if_pos (by rw [hm, decide_eq_true hlt]; rfl)]
      refine ⟨h.put hk hi (by rw [hs]; exact hm), fun x => ?_, fun _ => ?_⟩
      · rw [getD_set]
        split
        · rename_i e; rw [← e.1]; omega
        · omega
      · rw [getD_set, if_pos ⟨rfl, by rw [h.len]; exact hi⟩]; omega
    · rw [if_neg (by rw [hm, decide_eq_false hlt]; simp)]
      exact ⟨h, fun x => Int.le_refl _, fun _ => by omega⟩
  · rw [if_neg (by simp [hm])]
    exact ⟨h, fun x => Int.le_refl _, fun e => absurd e hm⟩
theorem foldS_ok (hs : ∀ i k, m i k = m k i) {i : Nat} (hi : i < n) : ∀ (ks : List Nat) (o : List Int), (∀ k ∈ ks, k < n) → OKP n m o →
    OKP n m (ks.foldl (stepS m i) o) ∧ (∀ x, (ks.foldl (stepS m i) o).getD x 0 ≤ o.getD x 0) ∧ ∀ k ∈ ks, m i k = true → (ks.foldl (stepS m i) o).getD i 0 ≤ o.getD k 0
  | [], o, _, h => ⟨h, fun x => Int.le_refl _, fun k hk => by simp at hk⟩
  | k :: ks, o, hk, h => by
    obtain ⟨a1, a2, a3⟩ := stepS_ok hs h hi (hk k (by simp))
    obtain ⟨b1, b2, b3⟩ := foldS_ok hs hi ks _ (fun x hx => hk x (List.mem_cons_of_mem _ hx)) a1
    refine ⟨b1, fun x => Int.le_trans (b2 x) (a2 x), fun y hy hm => ?_⟩
    rw [List.foldl_cons]
    rcases List.mem_cons.1 hy with rfl | hy
    · exact Int.le_trans (b2 i) (a3 hm)
    · exact Int.le_trans (b3 y hy hm) (a2 y)
theorem foldR_ok (hs : ∀ i k, m i k = m k i) : ∀ (is : List Nat) (o : List Int), (∀ i ∈ is, i < n) → OKP n m o →
    OKP n m (is.foldl (rowS n m) o) ∧ (∀ x, (is.foldl (rowS n m) o).getD x 0 ≤ o.getD x 0) ∧ ∀ i ∈ is, ∀ k, k < n → m i k = true → (is.foldl (rowS n m) o).getD i 0 ≤ o.getD k 0
  | [], o, _, h => ⟨h, fun x => Int.le_refl _, fun k hk => by simp at hk⟩
  | i :: is, o, hi, h => by
    obtain ⟨a1, a2, a3⟩ := foldS_ok hs (hi i (by simp)) (List.range n) o (fun k hk => List.mem_range.1 hk) h
    obtain ⟨b1, b2, b3⟩ := foldR_ok hs is _ (fun x hx => hi x (List.mem_cons_of_mem _ hx)) a1
    refine ⟨b1, fun x => Int.le_trans (b2 x) (a2 x), fun y hy k hk hm => ?_⟩
    rw [List.foldl_cons]
    rcases List.mem_cons.1 hy with rfl | hy
    · exact Int.le_trans (b2 y) (a3 k (List.mem_range.2 hk) hm)
    · exact Int.le_trans (b3 y hy k hk hm) (a2 k)
theorem start_ok : OKP n m (partS n m 0) := by
  refine ⟨by simp [partS], fun i hi => ⟨i, by simp [partS, List.getD, hi], hi, ball_mono (r := 0) (by simp [ballB]) (by omega)⟩⟩
theorem partS_ok (hs : ∀ i k, m i k = m k i) : ∀ r, OKP n m (partS n m r) ∧ ∀ j i, j < n → i < n → ballB n m j r i = true → (partS n m r).getD i 0 ≤ (j : Int)
  | 0 => ⟨start_ok, fun j i hj hi h => by
      simp [ballB] at h
      subst h
      simp [partS, List.getD, hi]⟩
  | r + 1 => by
    obtain ⟨h1, h2⟩ := partS_ok hs r
    obtain ⟨b1, b2, b3⟩ := foldR_ok hs (List.range n) _ (fun i hi => List.mem_range.1 hi) h1
    refine ⟨b1, fun j i hj hi h => ?_⟩
    rcases ball_cases h with h | ⟨k, hk, h, hm⟩
    · exact Int.le_trans (b2 i) (h2 j i hj hi h)
    · exact Int.le_trans (b3 i (List.mem_range.2 hi) k hk (by rw [hs]; exact hm)) (h2 j k hj hk h)

def totI (o : List Int) : Nat := (o.map Int.toNat).sum
theorem tot_set : ∀ {o : List Int} {k : Nat} {v : Int}, k < o.length → totI (o.set k v) + (o.getD k 0).toNat = totI o + v.toNat
  | [], k, v, h => by simp at h
  | a :: o, 0, v, h => by simp [totI, List.getD]; omega
  | a :: o, k + 1, v, h => by
    have := tot_set (o := o) (k := k) (v := v) (by simpa using h)
    simp [totI, List.getD] at this ⊢
    omega

/-- What a step of the program's gives, told of a stretch of steps. -/
structure IP (n : Nat) (m : Nat → Nat → Bool) (x y : List Int × Bool) (is : Nat → Nat → Prop) : Prop where
  ok : OKP n m y.1
  mono : ∀ i, y.1.getD i 0 ≤ x.1.getD i 0
  tot : totI y.1 ≤ totI x.1
  less : y.2 = true → x.2 = true ∨ totI y.1 < totI x.1
  same : y.2 = false → y.1 = x.1 ∧ x.2 = false ∧ ∀ i k, is i k → m i k = true → x.1.getD k 0 ≤ x.1.getD i 0
theorem IP.next {x y z : List Int × Bool} {p q : Nat → Nat → Prop} (h : IP n m x y p) (k : IP n m y z q) : IP n m x z (fun a b => p a b ∨ q a b) :=
  { ok := k.ok, mono := fun i => Int.le_trans (k.mono i) (h.mono i), tot := Nat.le_trans k.tot h.tot
    less := fun e => by
      rcases k.less e with e | e
      · rcases h.less e with e | e
        · exact .inl e
        · exact .inr (Nat.lt_of_le_of_lt k.tot e)
      · exact .inr (Nat.lt_of_lt_of_le e h.tot)
    same := fun e => by
      obtain ⟨a1, a2, a3⟩ := k.same e
      obtain ⟨b1, b2, b3⟩ := h.same a2
      refine ⟨a1.trans b1, b2, fun i k hp hm => ?_⟩
      rcases hp with hp | hp
      · exact b3 i k hp hm
      · rw [← b1]; exact a3 i k hp hm }
theorem IP.mono' {x y : List Int × Bool} {p q : Nat → Nat → Prop} (h : IP n m x y p) (hpq : ∀ a b, q a b → p a b) : IP n m x y q :=
  { h with same := fun e => ⟨(h.same e).1, (h.same e).2.1, fun i k hq => (h.same e).2.2 i k (hpq i k hq)⟩ }
theorem stepI_ok {x : List Int × Bool} (h : OKP n m x.1) {i k : Nat} (hi : i < n) (hk : k < n) : IP n m x (stepI m i x k) (fun a b => a = i ∧ b = k) := by
  unfold stepI
  by_cases hlt : x.1.getD i 0 < x.1.getD k 0
  · by_cases hm : m i k = true
    · rw [if_pos (by rw [hm, decide_eq_true hlt]; rfl)]
      have ht := tot_set (o := x.1) (k := k) (v := x.1.getD i 0) (by rw [h.len]; exact hk)
      obtain ⟨a, ha, _⟩ := h.rng i hi
      obtain ⟨b, hb, _⟩ := h.rng k hk
      have hab : a < b := by rw [ha, hb] at hlt; omega
      rw [ha, hb, Int.toNat_natCast, Int.toNat_natCast] at ht
      refine { ok := h.put hi hk hm, mono := fun y => ?_, tot := ?_, less := fun _ => .inr ?_, same := fun e => (nomatch e) }
      · show (x.1.set k (x.1.getD i 0)).getD y 0 ≤ _
        rw [getD_set]
        split
        · rename_i e; rw [← e.1]; omega
        · omega
      · show totI (x.1.set k (x.1.getD i 0)) ≤ _
        rw [ha]; omega
      · show totI (x.1.set k (x.1.getD i 0)) < _
        rw [ha]; omega
    · rw [if_neg (by simp [hm])]
      exact { ok := h, mono := fun _ => Int.le_refl _, tot := Nat.le_refl _, less := fun e => .inl e, same := fun e => ⟨rfl, e, fun a b hp hm' => by obtain ⟨rfl, rfl⟩ := hp; exact absurd hm' hm⟩ }
  · rw [if_neg (by rw [decide_eq_false hlt]; simp)]
    exact { ok := h, mono := fun _ => Int.le_refl _, tot := Nat.le_refl _, less := fun e => .inl e, same := fun e => ⟨rfl, e, fun a b hp hm' => by obtain ⟨rfl, rfl⟩ := hp; omega⟩ }
theorem foldI_ok {i : Nat} (hi : i < n) : ∀ (ks : List Nat) (x : List Int × Bool), (∀ k ∈ ks, k < n) → OKP n m x.1 → IP n m x (ks.foldl (stepI m i) x) (fun a b => a = i ∧ b ∈ ks)
  | [], x, _, h => { ok := h, mono := fun _ => Int.le_refl _, tot := Nat.le_refl _, less := fun e => .inl e, same := fun e => ⟨rfl, e, fun a b hp => by simp at hp⟩ }
  | k :: ks, x, hk, h => by
    have a := stepI_ok h hi (hk k (by simp))
    have b := foldI_ok hi ks _ (fun y hy => hk y (List.mem_cons_of_mem _ hy)) a.ok
    refine (a.next b).mono' fun c d hp => ?_
    rcases List.mem_cons.1 hp.2 with e | e
    · exact .inl ⟨hp.1, e⟩
    · exact .inr ⟨hp.1, e⟩
theorem foldRI_ok : ∀ (is : List Nat) (x : List Int × Bool), (∀ i ∈ is, i < n) → OKP n m x.1 → IP n m x (is.foldl (rowI n m) x) (fun a b => a ∈ is ∧ b < n)
  | [], x, _, h => { ok := h, mono := fun _ => Int.le_refl _, tot := Nat.le_refl _, less := fun e => .inl e, same := fun e => ⟨rfl, e, fun a b hp => by simp at hp⟩ }
  | i :: is, x, hi, h => by
    have a := foldI_ok (m := m) (hi i (by simp)) (List.range n) x (fun k hk => List.mem_range.1 hk) h
    have b := foldRI_ok is _ (fun y hy => hi y (List.mem_cons_of_mem _ hy)) a.ok
    refine (a.next b).mono' fun c d hp => ?_
    rcases List.mem_cons.1 hp.1 with e | e
    · exact .inl ⟨e, List.mem_range.2 hp.2⟩
    · exact .inr ⟨e, hp.2⟩
theorem passI_ok {o : List Int} (h : OKP n m o) : IP n m (o, false) (passI n m o) (fun a b => a < n ∧ b < n) :=
  (foldRI_ok (List.range n) (o, false) (fun i hi => List.mem_range.1 hi) h).mono' fun a b hp => ⟨List.mem_range.2 hp.1, hp.2⟩

/-- No meeting is left that would turn anything: the list is the reference's. -/
theorem part_same (hs : ∀ i k, m i k = m k i) {o : List Int} (h : OKP n m o) (hle : ∀ i, i < n → o.getD i 0 ≤ (i : Int)) (hfix : ∀ i k, i < n → k < n → m i k = true → o.getD k 0 ≤ o.getD i 0) : o = partS n m n := by
  obtain ⟨s1, s2⟩ := partS_ok (n := n) hs n
  have hmin : ∀ j, j < n → ∀ r i, i < n → ballB n m j r i = true → o.getD i 0 ≤ (j : Int) := fun j hj r => by
    induction r with
    | zero =>
      intro i hi hb
      simp [ballB] at hb
      subst hb
      exact hle i hi
    | succ r ih =>
      intro i hi hb
      rcases ball_cases hb with hb | ⟨k, hk, hb, hm⟩
      · exact ih i hi hb
      · exact Int.le_trans (hfix k i hk hi hm) (ih k hk hb)
  apply List.ext_getElem (by rw [h.len, s1.len])
  intro i h1 h2
  have hi : i < n := by rw [h.len] at h1; exact h1
  have e1 : o[i] = o.getD i 0 := by simp [List.getD, h1]
  have e2 : (partS n m n)[i] = (partS n m n).getD i 0 := by simp [List.getD, h2]
  rw [e1, e2]
  obtain ⟨a, ha, han, hab⟩ := h.rng i hi
  obtain ⟨b, hb, hbn, hbb⟩ := s1.rng i hi
  have := s2 a i han hi hab
  have := hmin b hbn n i hi hbb
  omega
end

end Go.Proofs.YtmnnbgciakigfaaDoor
